/- Lean functions, walks and rows for the seat YtgfeafcgpeclcaaDoor, written by a program of this repo (wip/tools/xprint.py). (Merged out of this claim's own texts.) -/
import Derived.Test.YtgfeafcgpeclcaaDoorBFnExactYoungSet5
namespace Go.Proofs.YtgfeafcgpeclcaaDoor.X
open Go.RowKit Go.Proofs.YtgfeafcgpeclcaaDoorW.PrintWords Go.Proofs.YtgfeafcgpeclcaaDoorW.PrintLast Go.Proofs.YtgfeafcgpeclcaaDoorW.PrintMore
attribute [local go_sem] max2_int min2_int max_two min_two max_three min_three max_four min_four   -- for this text's walks alone
set_option linter.unusedVariables false
set_option linter.unusedSimpArgs false

/-! ### laws_FnExactYoungSet: function 8 -/
mutual
def laws_FnExactYoungSet.j0 : Nat → List ByteArray → Int → Int → Int → Bool → List ByteArray → Bool → Bool → Int → List Int → Int → List Int → Int → List Int → Int → List Int → Option (Bool)
 | 0,_,_,_,_,_,_,_,_,_,_,_,_,_,_,_,_ => none
 | k + 1,x0,x2,x3,x4,x13,x14,x17,x65,x666000,x666001,x681000,x681001,x689000,x689001,x695000,x695001 => if x65 = true then (some false) else ((laws_toStringS.f k x0).bind fun t696 => ((laws_eqStringS.f k x14 t696).bind fun t699 => (if t699 = true then ((laws_toNursery.f k x666000 x666001).bind fun bt700 => ((laws_eqNursery.f k x689000 x689001 bt700.1 bt700.2).bind fun t704 => (if t704 = true then ((laws_markStringS.f k x14 1).bind fun bt705 => ((laws_markNursery.f k x689000 x689001 bt705.1).bind fun bt707 => (if bt707.1 < 0 then (laws_FnExactYoungSet.j1 k x0 x2 x3 x4 x13 true x666000 x666001 x681000 x681001 x695000 x695001) else ((laws_eqNursery.f k x695000 x695001 x681000 x681001).bind fun t709 => (if t709 = true then (laws_FnExactYoungSet.j1 k x0 x2 x3 x4 x13 (x17 != x13) x666000 x666001 x681000 x681001 x695000 x695001) else (laws_FnExactYoungSet.j1 k x0 x2 x3 x4 x13 true x666000 x666001 x681000 x681001 x695000 x695001)))))) else (some false)))) else (some false))))
def laws_FnExactYoungSet.j1 : Nat → List ByteArray → Int → Int → Int → Bool → Bool → Int → List Int → Int → List Int → Int → List Int → Option (Bool)
 | 0,_,_,_,_,_,_,_,_,_,_,_,_ => none
 | k + 1,x0,x2,x3,x4,x13,x94,x666000,x666001,x681000,x681001,x695000,x695001 => if x94 = true then (some false) else ((laws_markNursery.f k x695000 x695001 1).bind fun bt710 => ((laws_heldNursery.f k x695000 bt710.2 1).bind fun t712 => (if t712 < 0 then (some false) else (if t712 = bt710.1 then ((laws_toStringS.f k x0).bind fun t713 => ((laws_toNursery.f k x666000 x666001).bind fun bt716 => ((impl_YoungSet.f k t713 bt716.1 bt716.2 x2 x3 x4).bind fun bt720 => ((laws_eqNursery.f k bt720.1 bt720.2.1 x681000 x681001).bind fun t726 => (if t726 = true then (laws_FnExactYoungSet.j2 k bt710.1 (bt720.2.2 != x13) x695000 bt710.2) else (laws_FnExactYoungSet.j2 k bt710.1 true x695000 bt710.2)))))) else (some false)))))
def laws_FnExactYoungSet.j2 : Nat → Int → Bool → Int → List Int → Option (Bool)
 | 0,_,_,_,_ => none
 | k + 1,x19,x125,x695000,x695001 => if x125 = true then (some false) else ((laws_heldNursery.f k x695000 x695001 1).bind fun t727 => (if t727 < 0 then (some false) else (if t727 = x19 then (some true) else (some false))))
end
def laws_FnExactYoungSet.f (k : Nat) (l0 : List ByteArray) (a1_0 : Int) (l1_1 : List Int) (a2 : Int) (a3 : Int) (a4 : Int) : Option (Bool) := (laws_szStringS.f k l0 1048576).bind fun t666 => (if t666 < 0 then (some true) else ((laws_szNursery.f a1_0 l1_1 t666).bind fun t667 => (if t667 < 0 then (some true) else ((laws_toStringS.f k l0).bind fun t668 => ((laws_toNursery.f k a1_0 l1_1).bind fun bt671 => ((spec_YoungSet.f k t668 bt671.1 bt671.2 a2 a3 a4).bind fun bt675 => ((laws_toStringS.f k l0).bind fun t681 => ((laws_toNursery.f k a1_0 l1_1).bind fun bt684 => ((impl_YoungSet.f k t681 bt684.1 bt684.2 a2 a3 a4).bind fun bt689 => ((laws_eqNursery.f k bt689.1 bt689.2.1 bt675.1 bt675.2.1).bind fun t695 => (if t695 = true then (laws_FnExactYoungSet.j0 k l0 a2 a3 a4 bt675.2.2 t681 bt689.2.2 (bt689.2.2 != bt675.2.2) a1_0 l1_1 bt675.1 bt675.2.1 bt684.1 bt684.2 bt689.1 bt689.2.1) else (laws_FnExactYoungSet.j0 k l0 a2 a3 a4 bt675.2.2 t681 bt689.2.2 true a1_0 l1_1 bt675.1 bt675.2.1 bt684.1 bt684.2 bt689.1 bt689.2.1))))))))))))
theorem laws_FnExactYoungSet.mono_l : ∀ k, (∀ y0 y1 y2 y3 y4 y5 y6 y7 y8 y9 y10 y11 y12 y13 y14 y15, LeO (laws_FnExactYoungSet.j0 k y0 y1 y2 y3 y4 y5 y6 y7 y8 y9 y10 y11 y12 y13 y14 y15) (laws_FnExactYoungSet.j0 (k + 1) y0 y1 y2 y3 y4 y5 y6 y7 y8 y9 y10 y11 y12 y13 y14 y15)) ∧ (∀ y0 y1 y2 y3 y4 y5 y6 y7 y8 y9 y10 y11, LeO (laws_FnExactYoungSet.j1 k y0 y1 y2 y3 y4 y5 y6 y7 y8 y9 y10 y11) (laws_FnExactYoungSet.j1 (k + 1) y0 y1 y2 y3 y4 y5 y6 y7 y8 y9 y10 y11)) ∧ (∀ y0 y1 y2 y3, LeO (laws_FnExactYoungSet.j2 k y0 y1 y2 y3) (laws_FnExactYoungSet.j2 (k + 1) y0 y1 y2 y3))
 | 0 => ⟨fun _ _ _ _ _ _ _ _ _ _ _ _ _ _ _ _ r h => by simp [laws_FnExactYoungSet.j0] at h,fun _ _ _ _ _ _ _ _ _ _ _ _ r h => by simp [laws_FnExactYoungSet.j1] at h,fun _ _ _ _ r h => by simp [laws_FnExactYoungSet.j2] at h⟩
 | k + 1 => by
  obtain ⟨ih0,ih1,ih2⟩:=laws_FnExactYoungSet.mono_l k
  refine ⟨?_,?_,?_⟩
  ·intro y0 y1 y2 y3 y4 y5 y6 y7 y8 y9 y10 y11 y12 y13 y14 y15
   unfold laws_FnExactYoungSet.j0
   repeat' first
   | (with_reducible exact ih0 _ _ _ _ _ _ _ _ _ _ _ _ _ _ _ _)
   | (with_reducible exact ih1 _ _ _ _ _ _ _ _ _ _ _ _)
   | (with_reducible exact ih2 _ _ _ _)
   | (with_reducible exact impl_YoungSet.mono _ _ _ _ _ _ _)
   | (with_reducible exact laws_eqNursery.mono _ _ _ _ _)
   | (with_reducible exact laws_eqStringS.mono _ _ _)
   | (with_reducible exact laws_heldNursery.mono _ _ _ _)
   | (with_reducible exact laws_markNursery.mono _ _ _ _)
   | (with_reducible exact laws_markStringS.mono _ _ _)
   | (with_reducible exact laws_szStringS.mono _ _ _)
   | (with_reducible exact laws_toNursery.mono _ _ _)
   | (with_reducible exact laws_toStringS.mono _ _)
   | (with_reducible exact spec_YoungSet.mono _ _ _ _ _ _ _)
   | (with_reducible exact LeO.refl _)
   | (with_reducible exact LeO.none _)
   | (with_reducible refine LeO.ite ?_ ?_)
   | (with_reducible refine LeO.bind ?_ (fun _ => ?_))
   | exact ih0 _ _ _ _ _ _ _ _ _ _ _ _ _ _ _ _
   | exact ih1 _ _ _ _ _ _ _ _ _ _ _ _
   | exact ih2 _ _ _ _
   | exact impl_YoungSet.mono _ _ _ _ _ _ _
   | exact laws_eqNursery.mono _ _ _ _ _
   | exact laws_eqStringS.mono _ _ _
   | exact laws_heldNursery.mono _ _ _ _
   | exact laws_markNursery.mono _ _ _ _
   | exact laws_markStringS.mono _ _ _
   | exact laws_szStringS.mono _ _ _
   | exact laws_toNursery.mono _ _ _
   | exact laws_toStringS.mono _ _
   | exact spec_YoungSet.mono _ _ _ _ _ _ _
   | exact LeO.none _
   | refine LeO.ite ?_ ?_
   | refine LeO.bind ?_ (fun _ => ?_)
  ·intro y0 y1 y2 y3 y4 y5 y6 y7 y8 y9 y10 y11
   unfold laws_FnExactYoungSet.j1
   repeat' first
   | (with_reducible exact ih0 _ _ _ _ _ _ _ _ _ _ _ _ _ _ _ _)
   | (with_reducible exact ih1 _ _ _ _ _ _ _ _ _ _ _ _)
   | (with_reducible exact ih2 _ _ _ _)
   | (with_reducible exact impl_YoungSet.mono _ _ _ _ _ _ _)
   | (with_reducible exact laws_eqNursery.mono _ _ _ _ _)
   | (with_reducible exact laws_eqStringS.mono _ _ _)
   | (with_reducible exact laws_heldNursery.mono _ _ _ _)
   | (with_reducible exact laws_markNursery.mono _ _ _ _)
   | (with_reducible exact laws_markStringS.mono _ _ _)
   | (with_reducible exact laws_szStringS.mono _ _ _)
   | (with_reducible exact laws_toNursery.mono _ _ _)
   | (with_reducible exact laws_toStringS.mono _ _)
   | (with_reducible exact spec_YoungSet.mono _ _ _ _ _ _ _)
   | (with_reducible exact LeO.refl _)
   | (with_reducible exact LeO.none _)
   | (with_reducible refine LeO.ite ?_ ?_)
   | (with_reducible refine LeO.bind ?_ (fun _ => ?_))
   | exact ih0 _ _ _ _ _ _ _ _ _ _ _ _ _ _ _ _
   | exact ih1 _ _ _ _ _ _ _ _ _ _ _ _
   | exact ih2 _ _ _ _
   | exact impl_YoungSet.mono _ _ _ _ _ _ _
   | exact laws_eqNursery.mono _ _ _ _ _
   | exact laws_eqStringS.mono _ _ _
   | exact laws_heldNursery.mono _ _ _ _
   | exact laws_markNursery.mono _ _ _ _
   | exact laws_markStringS.mono _ _ _
   | exact laws_szStringS.mono _ _ _
   | exact laws_toNursery.mono _ _ _
   | exact laws_toStringS.mono _ _
   | exact spec_YoungSet.mono _ _ _ _ _ _ _
   | exact LeO.none _
   | refine LeO.ite ?_ ?_
   | refine LeO.bind ?_ (fun _ => ?_)
  ·intro y0 y1 y2 y3
   unfold laws_FnExactYoungSet.j2
   repeat' first
   | (with_reducible exact ih0 _ _ _ _ _ _ _ _ _ _ _ _ _ _ _ _)
   | (with_reducible exact ih1 _ _ _ _ _ _ _ _ _ _ _ _)
   | (with_reducible exact ih2 _ _ _ _)
   | (with_reducible exact impl_YoungSet.mono _ _ _ _ _ _ _)
   | (with_reducible exact laws_eqNursery.mono _ _ _ _ _)
   | (with_reducible exact laws_eqStringS.mono _ _ _)
   | (with_reducible exact laws_heldNursery.mono _ _ _ _)
   | (with_reducible exact laws_markNursery.mono _ _ _ _)
   | (with_reducible exact laws_markStringS.mono _ _ _)
   | (with_reducible exact laws_szStringS.mono _ _ _)
   | (with_reducible exact laws_toNursery.mono _ _ _)
   | (with_reducible exact laws_toStringS.mono _ _)
   | (with_reducible exact spec_YoungSet.mono _ _ _ _ _ _ _)
   | (with_reducible exact LeO.refl _)
   | (with_reducible exact LeO.none _)
   | (with_reducible refine LeO.ite ?_ ?_)
   | (with_reducible refine LeO.bind ?_ (fun _ => ?_))
   | exact ih0 _ _ _ _ _ _ _ _ _ _ _ _ _ _ _ _
   | exact ih1 _ _ _ _ _ _ _ _ _ _ _ _
   | exact ih2 _ _ _ _
   | exact impl_YoungSet.mono _ _ _ _ _ _ _
   | exact laws_eqNursery.mono _ _ _ _ _
   | exact laws_eqStringS.mono _ _ _
   | exact laws_heldNursery.mono _ _ _ _
   | exact laws_markNursery.mono _ _ _ _
   | exact laws_markStringS.mono _ _ _
   | exact laws_szStringS.mono _ _ _
   | exact laws_toNursery.mono _ _ _
   | exact laws_toStringS.mono _ _
   | exact spec_YoungSet.mono _ _ _ _ _ _ _
   | exact LeO.none _
   | refine LeO.ite ?_ ?_
   | refine LeO.bind ?_ (fun _ => ?_)
theorem laws_FnExactYoungSet.mono : ∀ a0 a1 a2 a3 a4 a5 k, LeO (laws_FnExactYoungSet.f k a0 a1 a2 a3 a4 a5) (laws_FnExactYoungSet.f (k + 1) a0 a1 a2 a3 a4 a5) := by
 intro a0 a1 a2 a3 a4 a5 k
 obtain ⟨ih0,ih1,ih2⟩:=laws_FnExactYoungSet.mono_l k
 unfold laws_FnExactYoungSet.f
 repeat' first
   | (with_reducible exact ih0 _ _ _ _ _ _ _ _ _ _ _ _ _ _ _ _)
   | (with_reducible exact ih1 _ _ _ _ _ _ _ _ _ _ _ _)
   | (with_reducible exact ih2 _ _ _ _)
   | (with_reducible exact impl_YoungSet.mono _ _ _ _ _ _ _)
   | (with_reducible exact laws_eqNursery.mono _ _ _ _ _)
   | (with_reducible exact laws_eqStringS.mono _ _ _)
   | (with_reducible exact laws_heldNursery.mono _ _ _ _)
   | (with_reducible exact laws_markNursery.mono _ _ _ _)
   | (with_reducible exact laws_markStringS.mono _ _ _)
   | (with_reducible exact laws_szStringS.mono _ _ _)
   | (with_reducible exact laws_toNursery.mono _ _ _)
   | (with_reducible exact laws_toStringS.mono _ _)
   | (with_reducible exact spec_YoungSet.mono _ _ _ _ _ _ _)
   | (with_reducible exact LeO.refl _)
   | (with_reducible exact LeO.none _)
   | (with_reducible refine LeO.ite ?_ ?_)
   | (with_reducible refine LeO.bind ?_ (fun _ => ?_))
   | exact ih0 _ _ _ _ _ _ _ _ _ _ _ _ _ _ _ _
   | exact ih1 _ _ _ _ _ _ _ _ _ _ _ _
   | exact ih2 _ _ _ _
   | exact impl_YoungSet.mono _ _ _ _ _ _ _
   | exact laws_eqNursery.mono _ _ _ _ _
   | exact laws_eqStringS.mono _ _ _
   | exact laws_heldNursery.mono _ _ _ _
   | exact laws_markNursery.mono _ _ _ _
   | exact laws_markStringS.mono _ _ _
   | exact laws_szStringS.mono _ _ _
   | exact laws_toNursery.mono _ _ _
   | exact laws_toStringS.mono _ _
   | exact spec_YoungSet.mono _ _ _ _ _ _ _
   | exact LeO.none _
   | refine LeO.ite ?_ ?_
   | refine LeO.bind ?_ (fun _ => ?_)
def laws_FnExactYoungSet.T8 : Bool × List (List Nat × List Nat) := (true, [([], []), ([0], [0]), ([], []), ([2, 1], [2]), ([], []), ([], []), ([], []), ([1, 3, 4, 5, 6, 3], [1, 3, 4, 5, 6]), ([7], [7]), ([8], [8]), ([8], [8]), ([], []), ([11, 9, 7, 0, 1, 2, 3, 4, 5, 6, 7, 8, 9, 11], [9, 11]), ([10, 12, 0, 1, 2, 3, 4, 5, 6, 7, 8, 9, 10, 11, 12], [10])])
def laws_FnExactYoungSet.B8 : List Nat := [0, 1, 0, 7, 0, 0, 0, 127, 255, 511, 511, 0, 3071, 8191]
theorem laws_FnExactYoungSet.tab8 : rtab .any (opsOf Tryd.f8 8) = laws_FnExactYoungSet.T8 := by kernel_rfl
theorem laws_FnExactYoungSet.bits8 : waitsOk laws_FnExactYoungSet.T8.2 laws_FnExactYoungSet.B8 = true := by kernel_rfl
def laws_FnExactYoungSet.T31 : Bool × List (List Nat × List Nat) := (true, [([], []), ([0], [0]), ([], []), ([2, 1], [2]), ([], []), ([], []), ([], []), ([1, 3, 4, 5, 6, 3], [1, 3, 4, 5, 6]), ([7], [7]), ([8], [8]), ([8], [8]), ([], []), ([11, 9, 7, 0, 1, 2, 3, 4, 5, 6, 7, 8, 9, 11], [9, 11]), ([10, 12, 0, 1, 2, 3, 4, 5, 6, 7, 8, 9, 10, 11, 12], [10])])
def laws_FnExactYoungSet.B31 : List Nat := [0, 1, 0, 7, 0, 0, 0, 127, 255, 511, 511, 0, 3071, 8191]
theorem laws_FnExactYoungSet.tab31 : rtab .any (opsOf Tryd.f8 31) = laws_FnExactYoungSet.T31 := by kernel_rfl
theorem laws_FnExactYoungSet.bits31 : waitsOk laws_FnExactYoungSet.T31.2 laws_FnExactYoungSet.B31 = true := by kernel_rfl
set_option maxHeartbeats 8000000 in
set_option maxRecDepth 100000 in
theorem laws_FnExactYoungSet.calls (k : Nat) (A0 : Option Addr) (c0 : Nat) (l0 : List ByteArray) (a1_0 : Int) (A1_1 : Option Addr) (c1_1 : Nat) (l1_1 : List Int) (a2 : Int) (a3 : Int) (a4 : Int) (r : Bool) (w : World) (hr0 : Kd.C Kd.string w A0 l0.length l0) (hc0 : l0.length ≤ c0) (hr1_1 : Kd.C (Kd.int .i64) w A1_1 l1_1.length l1_1) (hc1_1 : l1_1.length ≤ c1_1) (h : laws_FnExactYoungSet.f k l0 a1_0 l1_1 a2 a3 a4 = some r) :
  Calls Tryd.prog 8 #[.slice A0 l0.length c0,.agg #[.int .i64 a1_0,.slice A1_1 l1_1.length c1_1],.int .i64 a2,.int .i64 a3,.int .i64 a4] w fun e w' => e = .returned (.bool r)∧Below w.heap.size w w':=by
 have hu25:=Tryd.underlying25
 have hu30:=Tryd.underlying30
 have HR0:=am hr0
 have HC0:=am hc0
 clear hr0 hc0
 have HR1_1:=am hr1_1
 have HC1_1:=am hc1_1
 clear hr1_1 hc1_1
 have HB:=am (Below.refl w.heap.size w)
 have H : ((laws_szStringS.f k l0 1048576).bind fun t666 => (if t666 < 0 then (some true) else ((laws_szNursery.f a1_0 l1_1 t666).bind fun t667 => (if t667 < 0 then (some true) else ((laws_toStringS.f k l0).bind fun t668 => ((laws_toNursery.f k a1_0 l1_1).bind fun bt671 => ((spec_YoungSet.f k t668 bt671.1 bt671.2 a2 a3 a4).bind fun bt675 => ((laws_toStringS.f k l0).bind fun t681 => ((laws_toNursery.f k a1_0 l1_1).bind fun bt684 => ((impl_YoungSet.f k t681 bt684.1 bt684.2 a2 a3 a4).bind fun bt689 => ((laws_eqNursery.f k bt689.1 bt689.2.1 bt675.1 bt675.2.1).bind fun t695 => (if t695 = true then (laws_FnExactYoungSet.j0 k l0 a2 a3 a4 bt675.2.2 t681 bt689.2.2 (bt689.2.2 != bt675.2.2) a1_0 l1_1 bt675.1 bt675.2.1 bt684.1 bt684.2 bt689.1 bt689.2.1) else (laws_FnExactYoungSet.j0 k l0 a2 a3 a4 bt675.2.2 t681 bt689.2.2 true a1_0 l1_1 bt675.1 bt675.2.1 bt684.1 bt684.2 bt689.1 bt689.2.1))))))))))))) = some r:=h
 clear h
 replace H:=Option.bind_eq_some_iff.mp H
 obtain ⟨t666,A60,H⟩:=H
 try dsimp only at H
 have A6:=am A60
 clear A60
 by_cases c7 : t666 < 0
 ·rw [if_pos c7] at H
  have c7b0 : decide (t666 < 0) = true:=decide_eq_true c7
  clear c7
  obtain rfl:=Option.some.inj H
  go_enter Tryd.func8,Tryd.ntmps8
  go_wp2_with (first|((with_reducible refine gate_dst (N:=6) rfl ?_);refine box_event ?hg (N:=6) ?hd (cs:=#[.int .i64 a1_0,.slice A1_1 l1_1.length c1_1]) (t:=25) ?hr ?_;(case hd => rfl);(case hg => rfl);(case hr => first|(go_simp;done)|(go_simp;rfl));intro gb665 hg w8 hbox hb;have n0_:=am (below_step (lup HB.out) hb);have n1_:=am (hbox);have n2_:=am ((by rw [hg];exact (below_size (lup HB.out)) : w.heap.size ≤ gb665));have n3_:=am ((by rw [hg];exact (below_size (lup HB.out)) : w.heap.size ≤ gb665));clear HB;have HB:=n0_;have BK665:=n1_;have GW665:=n2_;have GE665:=n3_;clear n0_ n1_ n2_ n3_;clear hb hbox hg)|((with_reducible refine gate_callee (f:=16) rfl ?_);refine goesL_ (some 25) rfl rfl Tryd.func16 (by kernel_rfl) rfl #[.slice A0 l0.length c0,.int .i64 1048576] rfl (by (try simp only [List.map_toArray,List.map_cons,List.map_nil]);first|done|rfl|(simp only [List.length_drop,List.length_take];rfl)) ?_;(with_reducible refine (laws_szStringS.calls k _ _ l0 1048576 t666 _ ?side1 ?side2 A6.out).mono ?_);(case side1 => repeat (first|exact (Kd.C_below HR0.out HB.out)|(with_reducible first|refine Kd.C_alloc ?_ _|refine Kd.C_drewN ?_ _|refine Kd.C_drew ?_)));(case side2 => exact HC0.out);rintro e w' ⟨rfl,⟨nd,rfl⟩⟩;refine ⟨_,rfl,?_⟩))
  go_ret
  exact ⟨by first|rfl|(simp [errW_none,errW_some] <;> rfl)|(simp [*,errW_none,errW_some] <;> rfl),by repeat (first|(with_reducible first|exact HB.out|apply below_alloc|apply pw_below_drewN|apply below_drew1|refine below_set ?_ GE665.out)|exact HB.out)⟩
 ·rw [if_neg c7] at H
  have c7b0 : decide (t666 < 0) = false:=decide_eq_false c7
  clear c7
  replace H:=Option.bind_eq_some_iff.mp H
  obtain ⟨t667,A90,H⟩:=H
  try dsimp only at H
  have A9:=am A90
  clear A90
  by_cases c10 : t667 < 0
  ·rw [if_pos c10] at H
   have c10b0 : decide (t667 < 0) = true:=decide_eq_true c10
   clear c10
   obtain rfl:=Option.some.inj H
   go_enter Tryd.func8,Tryd.ntmps8
   go_wp2_with (first|((with_reducible refine gate_dst (N:=6) rfl ?_);refine box_event ?hg (N:=6) ?hd (cs:=#[.int .i64 a1_0,.slice A1_1 l1_1.length c1_1]) (t:=25) ?hr ?_;(case hd => rfl);(case hg => rfl);(case hr => first|(go_simp;done)|(go_simp;rfl));intro gb665 hg w11 hbox hb;have n0_:=am (below_step (lup HB.out) hb);have n1_:=am (hbox);have n2_:=am ((by rw [hg];exact (below_size (lup HB.out)) : w.heap.size ≤ gb665));have n3_:=am ((by rw [hg];exact (below_size (lup HB.out)) : w.heap.size ≤ gb665));clear HB;have HB:=n0_;have BK665:=n1_;have GW665:=n2_;have GE665:=n3_;clear n0_ n1_ n2_ n3_;clear hb hbox hg)|((with_reducible refine gate_callee (f:=16) rfl ?_);refine goesL_ (some 25) rfl rfl Tryd.func16 (by kernel_rfl) rfl #[.slice A0 l0.length c0,.int .i64 1048576] rfl (by (try simp only [List.map_toArray,List.map_cons,List.map_nil]);first|done|rfl|(simp only [List.length_drop,List.length_take];rfl)) ?_;(with_reducible refine (laws_szStringS.calls k _ _ l0 1048576 t666 _ ?side1 ?side2 A6.out).mono ?_);(case side1 => repeat (first|exact (Kd.C_below HR0.out HB.out)|(with_reducible first|refine Kd.C_alloc ?_ _|refine Kd.C_drewN ?_ _|refine Kd.C_drew ?_)));(case side2 => exact HC0.out);rintro e w' ⟨rfl,⟨nd,rfl⟩⟩;refine ⟨_,rfl,?_⟩;have hcz12_0 : w11.cell? ⟨gb665,0,none⟩ = some (.int .i64 a1_0):=(blk_cell BK665.out 0).trans rfl;have hcz12_1 : w11.cell? ⟨gb665,1,none⟩ = some (.slice A1_1 l1_1.length c1_1):=(blk_cell BK665.out 1).trans rfl;have hfz12_0:=blk_frozen BK665.out 0;have hfz12_1:=blk_frozen BK665.out 1)|((with_reducible refine gate_callee (f:=17) rfl ?_);refine goesL_ (some 30) rfl rfl Tryd.func17 (by kernel_rfl) rfl #[.agg #[.int .i64 a1_0,.slice A1_1 l1_1.length c1_1],.int .i64 t666] rfl (by (try simp only [List.map_toArray,List.map_cons,List.map_nil]);first|done|rfl|(simp only [List.length_drop,List.length_take];rfl)) ?_;(with_reducible refine (laws_szNursery.calls a1_0 _ _ l1_1 t666 t667 _ ?side1 ?side2 A9.out).mono ?_);(case side1 => repeat (first|exact (Kd.C_below HR1_1.out (lup HB.out))|(with_reducible first|refine Kd.C_alloc ?_ _|refine Kd.C_drewN ?_ _|refine Kd.C_drew ?_)));(case side2 => exact HC1_1.out);rintro e w13 ⟨rfl,hb⟩;refine ⟨_,rfl,?_⟩;have n0_:=am (blk_below (bup BK665.out) hb);have n1_:=am (below_step (lup HB.out) hb);clear BK665 HB;have BK665:=n0_;have HB:=n1_;clear n0_ n1_;(try clear hb);(try clear hb2);(try clear hk);(try clear hi)))
   go_ret
   exact ⟨by first|rfl|(simp [errW_none,errW_some] <;> rfl)|(simp [*,errW_none,errW_some] <;> rfl),by repeat (first|(with_reducible first|exact HB.out|apply below_alloc|apply pw_below_drewN|apply below_drew1|refine below_set ?_ GE665.out)|exact HB.out)⟩
  ·rw [if_neg c10] at H
   have c10b0 : decide (t667 < 0) = false:=decide_eq_false c10
   clear c10
   replace H:=Option.bind_eq_some_iff.mp H
   obtain ⟨t668,A140,H⟩:=H
   try dsimp only at H
   have A14:=am A140
   clear A140
   replace H:=Option.bind_eq_some_iff.mp H
   obtain ⟨⟨t671,t672⟩,A150,H⟩:=H
   try dsimp only at H
   have A15:=am A150
   clear A150
   replace H:=Option.bind_eq_some_iff.mp H
   obtain ⟨⟨t675,t676,t679⟩,A160,H⟩:=H
   try dsimp only at H
   have A16:=am A160
   clear A160
   replace H:=Option.bind_eq_some_iff.mp H
   obtain ⟨t681,A170,H⟩:=H
   try dsimp only at H
   have A17:=am A170
   clear A170
   replace H:=Option.bind_eq_some_iff.mp H
   obtain ⟨⟨t684,t685⟩,A180,H⟩:=H
   try dsimp only at H
   have A18:=am A180
   clear A180
   replace H:=Option.bind_eq_some_iff.mp H
   obtain ⟨⟨t689,t690,t693⟩,A190,H⟩:=H
   try dsimp only at H
   have A19:=am A190
   clear A190
   have HC20:=am H
   clear H
   go_enter Tryd.func8,Tryd.ntmps8
   try go_wp2_with (first|((with_reducible refine gate_dst (N:=6) rfl ?_);refine box_event ?hg (N:=6) ?hd (cs:=#[.int .i64 a1_0,.slice A1_1 l1_1.length c1_1]) (t:=25) ?hr ?_;(case hd => rfl);(case hg => rfl);(case hr => first|(go_simp;done)|(go_simp;rfl));intro gb665 hg w21 hbox hb;have n0_:=am (below_step (lup HB.out) hb);have n1_:=am (hbox);have n2_:=am ((by rw [hg];exact (below_size (lup HB.out)) : w.heap.size ≤ gb665));have n3_:=am ((by rw [hg];exact (below_size (lup HB.out)) : w.heap.size ≤ gb665));clear HB;have HB:=n0_;have BK665:=n1_;have GW665:=n2_;have GE665:=n3_;clear n0_ n1_ n2_ n3_;clear hb hbox hg)|((with_reducible refine gate_callee (f:=16) rfl ?_);refine goesL_ (some 25) rfl rfl Tryd.func16 (by kernel_rfl) rfl #[.slice A0 l0.length c0,.int .i64 1048576] rfl (by (try simp only [List.map_toArray,List.map_cons,List.map_nil]);first|done|rfl|(simp only [List.length_drop,List.length_take];rfl)) ?_;(with_reducible refine (laws_szStringS.calls k _ _ l0 1048576 t666 _ ?side1 ?side2 A6.out).mono ?_);(case side1 => repeat (first|exact (Kd.C_below HR0.out HB.out)|(with_reducible first|refine Kd.C_alloc ?_ _|refine Kd.C_drewN ?_ _|refine Kd.C_drew ?_)));(case side2 => exact HC0.out);rintro e w' ⟨rfl,⟨nd,rfl⟩⟩;refine ⟨_,rfl,?_⟩;(try (rw [drewN_self w21];generalize hq_ : World.drewN w21 _ = w21;have n0_ : Aside0 (w21.heap[gb665]? = some (.cells #[.int .i64 a1_0,.slice A1_1 l1_1.length c1_1] 25 (0,0))):=⟨by rw [← hq_];exact (bup BK665.out)⟩;have n1_ : Aside0 (Below w.heap.size w w21):=⟨by rw [← hq_];exact (lup HB.out)⟩;clear BK665 HB hq_;have BK665:=n0_;have HB:=n1_;clear n0_ n1_));have hcz22_0 : w21.cell? ⟨gb665,0,none⟩ = some (.int .i64 a1_0):=(blk_cell BK665.out 0).trans rfl;have hcz22_1 : w21.cell? ⟨gb665,1,none⟩ = some (.slice A1_1 l1_1.length c1_1):=(blk_cell BK665.out 1).trans rfl;have hfz22_0:=blk_frozen BK665.out 0;have hfz22_1:=blk_frozen BK665.out 1)|((with_reducible refine gate_callee (f:=17) rfl ?_);refine goesL_ (some 30) rfl rfl Tryd.func17 (by kernel_rfl) rfl #[.agg #[.int .i64 a1_0,.slice A1_1 l1_1.length c1_1],.int .i64 t666] rfl (by (try simp only [List.map_toArray,List.map_cons,List.map_nil]);first|done|rfl|(simp only [List.length_drop,List.length_take];rfl)) ?_;(with_reducible refine (laws_szNursery.calls a1_0 _ _ l1_1 t666 t667 _ ?side1 ?side2 A9.out).mono ?_);(case side1 => repeat (first|exact (Kd.C_below HR1_1.out HB.out)|(with_reducible first|refine Kd.C_alloc ?_ _|refine Kd.C_drewN ?_ _|refine Kd.C_drew ?_)));(case side2 => exact HC1_1.out);rintro e w23 ⟨rfl,hb⟩;refine ⟨_,rfl,?_⟩;have n0_:=am (blk_below (bup BK665.out) hb);have n1_:=am (below_step (lup HB.out) hb);clear BK665 HB;have BK665:=n0_;have HB:=n1_;clear n0_ n1_;(try clear hb);(try clear hb2);(try clear hk);(try clear hi)))
   have n0_:=am (blk_drew BK665.out)
   have n1_:=am (below_drew1 HB.out)
   clear BK665
   clear HB
   have BK665:=n0_
   have HB:=n1_
   clear n0_ n1_
   refine start_ (n:=14) (S:=fun w' => w'.cell? ⟨gb665,0,none⟩ = some (.int .i64 a1_0)∧w'.cell? ⟨gb665,1,none⟩ = some (.slice A1_1 l1_1.length c1_1)) (ds:=[]) #[false,false,false,false,false,false,false,false,false,false,false,false,false,false] (by kernel_rfl) rfl rfl ⟨(blk_cell BK665.out 0).trans rfl,(blk_cell BK665.out 1).trans rfl⟩ (fun hHeld => ?_);refine with_tabW laws_FnExactYoungSet.tab8 laws_FnExactYoungSet.bits8 (fun HT_ HW_ => ?_)
   generalize w23.drew = w24 at BK665 HB hHeld ⊢
   refine pure_ (i:=0) (N:=some 34) (v:=?_) (a':=?_) #[true,false,false,false,false,false,false,false,false,false,false,false,false,false] rfl rfl (any_of HT_.out (by kernel_rfl)) (fun _ _ _ h => h) (Or.inl ⟨by rfl,?_⟩) ?_ ?_
   rotate_left
   ·intro w'
    go_simp
    with_reducible rfl
   rotate_left
   ·simp only [Act.put,List.setIfInBounds_toArray,List.set_cons_zero,List.set_cons_succ,i64_w,i32_w]
    rfl
   refine pure_ (i:=4) (N:=some 38) (v:=?_) (a':=?_) #[true,false,false,false,true,false,false,false,false,false,false,false,false,false] rfl rfl (any_of HT_.out (by kernel_rfl)) (fun _ _ _ h => h) (Or.inl ⟨by rfl,?_⟩) ?_ ?_
   rotate_left
   ·intro w'
    go_simp
    with_reducible rfl
   rotate_left
   ·simp only [Act.put,List.setIfInBounds_toArray,List.set_cons_zero,List.set_cons_succ,i64_w,i32_w]
    rfl
   refine pure_ (i:=5) (N:=some 39) (v:=?_) (a':=?_) #[true,false,false,false,true,true,false,false,false,false,false,false,false,false] rfl rfl (any_of HT_.out (by kernel_rfl)) (fun _ _ _ h => h) (Or.inl ⟨by rfl,?_⟩) ?_ ?_
   rotate_left
   ·intro w'
    go_simp
    with_reducible rfl
   rotate_left
   ·simp only [Act.put,List.setIfInBounds_toArray,List.set_cons_zero,List.set_cons_succ,i64_w,i32_w]
    rfl
   refine pure_ (i:=6) (N:=some 40) (v:=?_) (a':=?_) #[true,false,false,false,true,true,true,false,false,false,false,false,false,false] rfl rfl (any_of HT_.out (by kernel_rfl)) (fun _ _ _ h => h) (Or.inl ⟨by rfl,?_⟩) ?_ ?_
   rotate_left
   ·intro w'
    go_simp
    with_reducible rfl
   rotate_left
   ·simp only [Act.put,List.setIfInBounds_toArray,List.set_cons_zero,List.set_cons_succ,i64_w,i32_w]
    rfl
   refine take_ (i:=2) (N:=some 36) (v:=?_) (a':=?_) #[true,false,true,false,true,true,true,false,false,false,false,false,false,false] rfl rfl (take_ofW HT_.out HW_.out (by kernel_rfl)) (fun _ _ _ h => h) (Or.inl ⟨by rfl,?_⟩) hHeld ?_ ?_
   rotate_left
   ·rintro w' ⟨s0,s1⟩
    go_simp
    with_reducible rfl
   rotate_left
   ·simp only [Act.put,List.setIfInBounds_toArray,List.set_cons_zero,List.set_cons_succ,i64_w,i32_w]
    rfl
   refine join_ (σ:=Value × Value × Value × Nat) 2 #[true,true,true,true,true,true,true,true,true,true,true,true,false,false] (fun s_ => [(35,s_.1),(37,.agg #[.int .i64 t671,s_.2.1]),(41,.tuple #[.agg #[.int .i64 t675,s_.2.2.1],.bool t679]),(12,.pointer (some ⟨s_.2.2.2,0,none⟩)),(33,.tuple #[.agg #[.int .i64 t675,s_.2.2.1],.bool t679]),(42,.agg #[.int .i64 t675,s_.2.2.1]),(43,.bool t679)]) (fun s_ w' => (w'.cell? ⟨gb665,0,none⟩ = some (.int .i64 a1_0)∧w'.cell? ⟨gb665,1,none⟩ = some (.slice A1_1 l1_1.length c1_1))∧(Kd.R Kd.string 9 w' w.heap.size (fun _ => True) s_.1 t668)∧(Kd.R (Kd.int .i64) 2 w' w.heap.size (fun k_ => some k_≠(s_.2.2.1 : Value).ownBlock) s_.2.1 t672)∧(Kd.R (Kd.int .i64) 2 w' w.heap.size (fun k_ => some k_≠(s_.2.1 : Value).ownBlock) s_.2.2.1 t676)∧(w'.heap[gb665]? = some (.cells #[.int .i64 a1_0,.slice A1_1 l1_1.length c1_1] 25 (0,0)))∧(w'.heap[s_.2.2.2]? = some (.cells #[.int .i64 0,.slice none 0 0] 30 (0,0)))∧(w.heap.size ≤ s_.2.2.2)∧(w.heap.size ≤ s_.2.2.2)∧(gb665≠s_.2.2.2)∧(s_.2.2.2≠gb665)∧(Below w.heap.size w w')) ?_ ?_
   rotate_left
   ·intro hCont
    refine two_ (i:=1) (j:=11) (Ni:=some 35) (Nj:=some 12) #[true,true,true,false,true,true,true,false,false,false,false,false,false,false] #[true,false,true,false,true,true,true,false,false,false,false,true,false,false] rfl rfl rfl rfl (two_of HT_.out (by kernel_rfl)) (by decide) (by decide) (fun K hK => ?_) (fun K hK => ?_)
    ·skip
     refine goes_ Tryd.func19 (by kernel_rfl) rfl #[.slice A0 l0.length c0] (by rfl) rfl rfl (by (try simp only [List.map_toArray,List.map_cons,List.map_nil]);first|done|rfl|(simp only [List.length_drop,List.length_take];rfl)) ?_
     with_reducible refine (laws_toStringS.calls k _ _ l0 t668 _ ?side1 ?side2 A14.out).mono ?_
     (case side1 => repeat (first|exact (Kd.C_below HR0.out HB.out)|(with_reducible first|refine Kd.C_alloc ?_ _|refine Kd.C_drewN ?_ _|refine Kd.C_drew ?_)))
     (case side2 => exact HC0.out)
     rintro e w25 ⟨v669,rfl,ho0,hb⟩
     refine ⟨_,rfl,?_⟩
     have n0_:=am (Kd.R_lower ho0 (below_size (lup HB.out)))
     have n1_:=am (blk_below (bup BK665.out) hb)
     have n2_:=am (below_step (lup HB.out) hb)
     clear BK665
     clear HB
     have HO670:=n0_
     have BK665:=n1_
     have HB:=n2_
     clear n0_ n1_ n2_
     (try clear hb)
     (try clear hb2)
     (try clear hk)
     (try clear hi)
     (try clear ho0)
     refine hK.out _ _ ⟨(blk_cell BK665.out 0).trans rfl,(blk_cell BK665.out 1).trans rfl⟩ (fun hHeld => ?_)
     clear hK K
     refine norm_ (a':=?_) ?_ ?_
     rotate_left
     ·show Act.put _ (some 35) _ = _
      simp only [Act.put,List.setIfInBounds_toArray,List.set_cons_zero,List.set_cons_succ,i64_w,i32_w]
      rfl
     refine two_ (i:=3) (j:=11) (Ni:=some 37) (Nj:=some 12) #[true,true,true,true,true,true,true,false,false,false,false,false,false,false] #[true,true,true,false,true,true,true,false,false,false,false,true,false,false] rfl rfl rfl rfl (two_of HT_.out (by kernel_rfl)) (by decide) (by decide) (fun K hK => ?_) (fun K hK => ?_)
     ·skip
      refine goes_ Tryd.func20 (by kernel_rfl) rfl #[.agg #[.int .i64 a1_0,.slice A1_1 l1_1.length c1_1]] (by rfl) rfl rfl (by (try simp only [List.map_toArray,List.map_cons,List.map_nil]);first|done|rfl|(simp only [List.length_drop,List.length_take];rfl)) ?_
      with_reducible refine (laws_toNursery.calls k a1_0 _ _ l1_1 t671 t672 _ ?side1 ?side2 A15.out).mono ?_
      (case side1 => repeat (first|exact (Kd.C_below HR1_1.out HB.out)|(with_reducible first|refine Kd.C_alloc ?_ _|refine Kd.C_drewN ?_ _|refine Kd.C_drew ?_)))
      (case side2 => exact HC1_1.out)
      rintro e w26 ⟨v673,rfl,ho0,hb⟩
      refine ⟨_,rfl,?_⟩
      have n0_:=am (Kd.R_below (kup HO670.out) hb)
      have n1_:=am (Kd.R_lower ho0 (below_size (lup HB.out)))
      have n2_:=am (blk_below (bup BK665.out) hb)
      have n3_:=am (below_step (lup HB.out) hb)
      clear HO670
      clear BK665
      clear HB
      have HO670:=n0_
      have HO674:=n1_
      have BK665:=n2_
      have HB:=n3_
      clear n0_ n1_ n2_ n3_
      (try clear hb)
      (try clear hb2)
      (try clear hk)
      (try clear hi)
      (try clear ho0)
      obtain ⟨Ao27,co27,eo27⟩:=Kd.R_slice HO670.out
      (first|subst eo27|(injection eo27 with f1_ f2_ f3_;have f4_:=f1_.symm;have f5_:=f3_.symm;clear f1_ f2_ f3_;subst f4_;subst f5_))
      obtain ⟨Ao28,co28,eo28⟩:=Kd.R_slice HO674.out
      (first|subst eo28|(injection eo28 with f1_ f2_ f3_;have f4_:=f1_.symm;have f5_:=f3_.symm;clear f1_ f2_ f3_;subst f4_;subst f5_))
      refine hK.out _ _ ⟨(blk_cell BK665.out 0).trans rfl,(blk_cell BK665.out 1).trans rfl⟩ (fun hHeld => ?_)
      clear hK K
      refine norm_ (a':=?_) ?_ ?_
      rotate_left
      ·show Act.put _ (some 37) _ = _
       simp only [Act.put,List.setIfInBounds_toArray,List.set_cons_zero,List.set_cons_succ,i64_w,i32_w]
       rfl
      refine two_ (i:=7) (j:=11) (Ni:=some 41) (Nj:=some 12) #[true,true,true,true,true,true,true,true,false,false,false,false,false,false] #[true,true,true,true,true,true,true,false,false,false,false,true,false,false] rfl rfl rfl rfl (two_of HT_.out (by kernel_rfl)) (by decide) (by decide) (fun K hK => ?_) (fun K hK => ?_)
      ·skip
       refine goes_ Tryd.func41 (by kernel_rfl) rfl #[.slice Ao27 t668.length co27,.agg #[.int .i64 t671,.slice Ao28 t672.length co28],.int .i64 a2,.int .i64 a3,.int .i64 a4] (by rfl) rfl rfl (by (try simp only [List.map_toArray,List.map_cons,List.map_nil]);first|done|rfl|(simp only [List.length_drop,List.length_take];rfl)) ?_
       with_reducible refine (spec_YoungSet.calls k _ _ t668 t671 _ _ t672 a2 a3 a4 t675 t676 t679 _ ?side1 ?side2 ?side3 ?side4 A16.out).mono ?_
       (case side1 => repeat (first|exact (Kd.R_reads' HO670.out).2.2|(with_reducible first|refine Kd.C_alloc ?_ _|refine Kd.C_drewN ?_ _|refine Kd.C_drew ?_)))
       (case side2 => exact (Kd.R_reads' HO670.out).2.1)
       (case side3 => repeat (first|exact (Kd.R_reads' HO674.out).2.2|(with_reducible first|refine Kd.C_alloc ?_ _|refine Kd.C_drewN ?_ _|refine Kd.C_drew ?_)))
       (case side4 => exact (Kd.R_reads' HO674.out).2.1)
       rintro e w29 ⟨v677,rfl,ho0,hb⟩
       refine ⟨_,rfl,?_⟩
       have n0_:=am (Kd.R_below (kup HO670.out) hb)
       have n1_:=am (Kd.R_elder' (kup HO674.out) (Kd.R_base ho0) hb)
       have n2_:=am (Kd.R_lower (Kd.R_new' ho0 (Kd.R_lt (kup HO674.out))) (below_size (lup HB.out)))
       have n3_:=am (blk_below (bup BK665.out) hb)
       have n4_:=am (below_step (lup HB.out) hb)
       clear HO670
       clear HO674
       clear BK665
       clear HB
       have HO670:=n0_
       have HO674:=n1_
       have HO678:=n2_
       have BK665:=n3_
       have HB:=n4_
       clear n0_ n1_ n2_ n3_ n4_
       (try clear hb)
       (try clear hb2)
       (try clear hk)
       (try clear hi)
       (try clear ho0)
       refine hK.out _ _ ⟨(blk_cell BK665.out 0).trans rfl,(blk_cell BK665.out 1).trans rfl⟩ (fun hHeld => ?_)
       clear hK K
       refine norm_ (a':=?_) ?_ ?_
       rotate_left
       ·show Act.put _ (some 41) _ = _
        simp only [Act.put,List.setIfInBounds_toArray,List.set_cons_zero,List.set_cons_succ,i64_w,i32_w]
        rfl
       refine pure_ (i:=8) (N:=some 33) (v:=?_) (a':=?_) #[true,true,true,true,true,true,true,true,true,false,false,false,false,false] rfl rfl (any_of HT_.out (by kernel_rfl)) (fun _ _ _ h => h) (Or.inl ⟨by rfl,?_⟩) ?_ ?_
       rotate_left
       ·intro w'
        go_simp
        with_reducible rfl
       rotate_left
       ·simp only [Act.put,List.setIfInBounds_toArray,List.set_cons_zero,List.set_cons_succ,i64_w,i32_w]
        rfl
       refine pure_ (i:=9) (N:=some 42) (v:=?_) (a':=?_) #[true,true,true,true,true,true,true,true,true,true,false,false,false,false] rfl rfl (any_of HT_.out (by kernel_rfl)) (fun _ _ _ h => h) (Or.inl ⟨by rfl,?_⟩) ?_ ?_
       rotate_left
       ·intro w'
        go_simp
        with_reducible rfl
       rotate_left
       ·simp only [Act.put,List.setIfInBounds_toArray,List.set_cons_zero,List.set_cons_succ,i64_w,i32_w]
        rfl
       refine pure_ (i:=10) (N:=some 43) (v:=?_) (a':=?_) #[true,true,true,true,true,true,true,true,true,true,true,false,false,false] rfl rfl (any_of HT_.out (by kernel_rfl)) (fun _ _ _ h => h) (Or.inl ⟨by rfl,?_⟩) ?_ ?_
       rotate_left
       ·intro w'
        go_simp
        with_reducible rfl
       rotate_left
       ·simp only [Act.put,List.setIfInBounds_toArray,List.set_cons_zero,List.set_cons_succ,i64_w,i32_w]
        rfl
       refine one_ (i:=11) (N:=some 12) #[true,true,true,true,true,true,true,true,true,true,true,true,false,false] rfl rfl (one_of HT_.out (by kernel_rfl)) (by decide) (fun K hK => ?_)
       refine box_step ?hg (N:=12) ?hd (cs:=#[.int .i64 0,.slice none 0 0]) (t:=30) ?hr ?_;(case hd => rfl);(case hg => rfl);(case hr => first|(go_simp;done)|(go_simp;rfl))
       intro gb680 hg w30 hbox hb
       have n0_:=am (Kd.R_below (kup HO670.out) hb)
       have n1_:=am (Kd.R_below (kup HO674.out) hb)
       have n2_:=am (Kd.R_below (kup HO678.out) hb)
       have n3_:=am (blk_below (bup BK665.out) hb)
       have n4_:=am (below_step (lup HB.out) hb)
       have n5_:=am (hbox)
       have n6_:=am ((by rw [hg];exact (below_size (lup HB.out)) : w.heap.size ≤ gb680))
       have n7_:=am ((by rw [hg];exact (below_size (lup HB.out)) : w.heap.size ≤ gb680))
       have n8_:=am ((by rw [hg];exact Nat.ne_of_lt (blk_lt (bup BK665.out)) : gb665≠gb680))
       have n9_:=am ((by rw [hg];exact Nat.ne_of_gt (blk_lt (bup BK665.out)) : gb680≠gb665))
       clear HO670
       clear HO674
       clear HO678
       clear BK665
       clear HB
       have HO670:=n0_
       have HO674:=n1_
       have HO678:=n2_
       have BK665:=n3_
       have HB:=n4_
       have BK680:=n5_
       have GW680:=n6_
       have GE680:=n7_
       have NB665_680:=n8_
       have NB680_665:=n9_
       clear n0_ n1_ n2_ n3_ n4_ n5_ n6_ n7_ n8_ n9_
       clear hb hbox hg
       refine hK.out _ _ ⟨(blk_cell BK665.out 0).trans rfl,(blk_cell BK665.out 1).trans rfl⟩ (fun hHeld => ?_)
       clear hK K
       refine norm_ (a':=?_) ?_ ?_
       rotate_left
       ·show Act.put _ (some 12) _ = _
        simp only [Act.put,List.setIfInBounds_toArray,List.set_cons_zero,List.set_cons_succ,i64_w,i32_w]
        rfl
       exact norm_ (by simp only [putAll,Act.put,List.setIfInBounds_toArray,List.set_cons_zero,List.set_cons_succ]) (hCont (.slice Ao27 t668.length co27,.slice Ao28 t672.length co28,v677,gb680) _ ⟨hHeld,(kup HO670.out),(kup (Kd.R_mono HO674.out (fun _ hk => hk.2))),(kup (Kd.R_mono HO678.out (fun _ hk => hk.2))),(bup BK665.out),(bup BK680.out),GW680.out,GE680.out,NB665_680.out,NB680_665.out,(lup HB.out)⟩)
      ·skip
       refine box_step ?hg (N:=12) ?hd (cs:=#[.int .i64 0,.slice none 0 0]) (t:=30) ?hr ?_;(case hd => rfl);(case hg => rfl);(case hr => first|(go_simp;done)|(go_simp;rfl))
       intro gb680 hg w27 hbox hb
       have n0_:=am (Kd.R_below (kup HO670.out) hb)
       have n1_:=am (Kd.R_below (kup HO674.out) hb)
       have n2_:=am (blk_below (bup BK665.out) hb)
       have n3_:=am (below_step (lup HB.out) hb)
       have n4_:=am (hbox)
       have n5_:=am ((by rw [hg];exact (below_size (lup HB.out)) : w.heap.size ≤ gb680))
       have n6_:=am ((by rw [hg];exact (below_size (lup HB.out)) : w.heap.size ≤ gb680))
       have n7_:=am ((by rw [hg];exact Nat.ne_of_lt (blk_lt (bup BK665.out)) : gb665≠gb680))
       have n8_:=am ((by rw [hg];exact Nat.ne_of_gt (blk_lt (bup BK665.out)) : gb680≠gb665))
       clear HO670
       clear HO674
       clear BK665
       clear HB
       have HO670:=n0_
       have HO674:=n1_
       have BK665:=n2_
       have HB:=n3_
       have BK680:=n4_
       have GW680:=n5_
       have GE680:=n6_
       have NB665_680:=n7_
       have NB680_665:=n8_
       clear n0_ n1_ n2_ n3_ n4_ n5_ n6_ n7_ n8_
       clear hb hbox hg
       obtain ⟨Ao28,co28,eo28⟩:=Kd.R_slice HO670.out
       (first|subst eo28|(injection eo28 with f1_ f2_ f3_;have f4_:=f1_.symm;have f5_:=f3_.symm;clear f1_ f2_ f3_;subst f4_;subst f5_))
       obtain ⟨Ao29,co29,eo29⟩:=Kd.R_slice HO674.out
       (first|subst eo29|(injection eo29 with f1_ f2_ f3_;have f4_:=f1_.symm;have f5_:=f3_.symm;clear f1_ f2_ f3_;subst f4_;subst f5_))
       refine hK.out _ _ ⟨(blk_cell BK665.out 0).trans rfl,(blk_cell BK665.out 1).trans rfl⟩ (fun hHeld => ?_)
       clear hK K
       refine norm_ (a':=?_) ?_ ?_
       rotate_left
       ·show Act.put _ (some 12) _ = _
        simp only [Act.put,List.setIfInBounds_toArray,List.set_cons_zero,List.set_cons_succ,i64_w,i32_w]
        rfl
       refine one_ (i:=7) (N:=some 41) #[true,true,true,true,true,true,true,true,false,false,false,true,false,false] rfl rfl (one_of HT_.out (by kernel_rfl)) (by decide) (fun K hK => ?_)
       refine goes_ Tryd.func41 (by kernel_rfl) rfl #[.slice Ao28 t668.length co28,.agg #[.int .i64 t671,.slice Ao29 t672.length co29],.int .i64 a2,.int .i64 a3,.int .i64 a4] (by rfl) rfl rfl (by (try simp only [List.map_toArray,List.map_cons,List.map_nil]);first|done|rfl|(simp only [List.length_drop,List.length_take];rfl)) ?_
       with_reducible refine (spec_YoungSet.calls k _ _ t668 t671 _ _ t672 a2 a3 a4 t675 t676 t679 _ ?side1 ?side2 ?side3 ?side4 A16.out).mono ?_
       (case side1 => repeat (first|exact (Kd.R_reads' HO670.out).2.2|(with_reducible first|refine Kd.C_alloc ?_ _|refine Kd.C_drewN ?_ _|refine Kd.C_drew ?_)))
       (case side2 => exact (Kd.R_reads' HO670.out).2.1)
       (case side3 => repeat (first|exact (Kd.R_reads' HO674.out).2.2|(with_reducible first|refine Kd.C_alloc ?_ _|refine Kd.C_drewN ?_ _|refine Kd.C_drew ?_)))
       (case side4 => exact (Kd.R_reads' HO674.out).2.1)
       rintro e w30 ⟨v677,rfl,ho0,hb⟩
       refine ⟨_,rfl,?_⟩
       have n0_:=am (Kd.R_below (kup HO670.out) hb)
       have n1_:=am (Kd.R_elder' (kup HO674.out) (Kd.R_base ho0) hb)
       have n2_:=am (Kd.R_lower (Kd.R_new' ho0 (Kd.R_lt (kup HO674.out))) (below_size (lup HB.out)))
       have n3_:=am (blk_below (bup BK665.out) hb)
       have n4_:=am (blk_below (bup BK680.out) hb)
       have n5_:=am (below_step (lup HB.out) hb)
       clear HO670
       clear HO674
       clear BK665
       clear BK680
       clear HB
       have HO670:=n0_
       have HO674:=n1_
       have HO678:=n2_
       have BK665:=n3_
       have BK680:=n4_
       have HB:=n5_
       clear n0_ n1_ n2_ n3_ n4_ n5_
       (try clear hb)
       (try clear hb2)
       (try clear hk)
       (try clear hi)
       (try clear ho0)
       refine hK.out _ _ ⟨(blk_cell BK665.out 0).trans rfl,(blk_cell BK665.out 1).trans rfl⟩ (fun hHeld => ?_)
       clear hK K
       refine norm_ (a':=?_) ?_ ?_
       rotate_left
       ·show Act.put _ (some 41) _ = _
        simp only [Act.put,List.setIfInBounds_toArray,List.set_cons_zero,List.set_cons_succ,i64_w,i32_w]
        rfl
       refine pure_ (i:=8) (N:=some 33) (v:=?_) (a':=?_) #[true,true,true,true,true,true,true,true,true,false,false,true,false,false] rfl rfl (any_of HT_.out (by kernel_rfl)) (fun _ _ _ h => h) (Or.inl ⟨by rfl,?_⟩) ?_ ?_
       rotate_left
       ·intro w'
        go_simp
        with_reducible rfl
       rotate_left
       ·simp only [Act.put,List.setIfInBounds_toArray,List.set_cons_zero,List.set_cons_succ,i64_w,i32_w]
        rfl
       refine pure_ (i:=9) (N:=some 42) (v:=?_) (a':=?_) #[true,true,true,true,true,true,true,true,true,true,false,true,false,false] rfl rfl (any_of HT_.out (by kernel_rfl)) (fun _ _ _ h => h) (Or.inl ⟨by rfl,?_⟩) ?_ ?_
       rotate_left
       ·intro w'
        go_simp
        with_reducible rfl
       rotate_left
       ·simp only [Act.put,List.setIfInBounds_toArray,List.set_cons_zero,List.set_cons_succ,i64_w,i32_w]
        rfl
       refine pure_ (i:=10) (N:=some 43) (v:=?_) (a':=?_) #[true,true,true,true,true,true,true,true,true,true,true,true,false,false] rfl rfl (any_of HT_.out (by kernel_rfl)) (fun _ _ _ h => h) (Or.inl ⟨by rfl,?_⟩) ?_ ?_
       rotate_left
       ·intro w'
        go_simp
        with_reducible rfl
       rotate_left
       ·simp only [Act.put,List.setIfInBounds_toArray,List.set_cons_zero,List.set_cons_succ,i64_w,i32_w]
        rfl
       exact norm_ (by simp only [putAll,Act.put,List.setIfInBounds_toArray,List.set_cons_zero,List.set_cons_succ]) (hCont (.slice Ao28 t668.length co28,.slice Ao29 t672.length co29,v677,gb680) _ ⟨hHeld,(kup HO670.out),(kup (Kd.R_mono HO674.out (fun _ hk => hk.2))),(kup (Kd.R_mono HO678.out (fun _ hk => hk.2))),(bup BK665.out),(bup BK680.out),GW680.out,GE680.out,NB665_680.out,NB680_665.out,(lup HB.out)⟩)
     ·skip
      refine box_step ?hg (N:=12) ?hd (cs:=#[.int .i64 0,.slice none 0 0]) (t:=30) ?hr ?_;(case hd => rfl);(case hg => rfl);(case hr => first|(go_simp;done)|(go_simp;rfl))
      intro gb680 hg w26 hbox hb
      have n0_:=am (Kd.R_below (kup HO670.out) hb)
      have n1_:=am (blk_below (bup BK665.out) hb)
      have n2_:=am (below_step (lup HB.out) hb)
      have n3_:=am (hbox)
      have n4_:=am ((by rw [hg];exact (below_size (lup HB.out)) : w.heap.size ≤ gb680))
      have n5_:=am ((by rw [hg];exact (below_size (lup HB.out)) : w.heap.size ≤ gb680))
      have n6_:=am ((by rw [hg];exact Nat.ne_of_lt (blk_lt (bup BK665.out)) : gb665≠gb680))
      have n7_:=am ((by rw [hg];exact Nat.ne_of_gt (blk_lt (bup BK665.out)) : gb680≠gb665))
      clear HO670
      clear BK665
      clear HB
      have HO670:=n0_
      have BK665:=n1_
      have HB:=n2_
      have BK680:=n3_
      have GW680:=n4_
      have GE680:=n5_
      have NB665_680:=n6_
      have NB680_665:=n7_
      clear n0_ n1_ n2_ n3_ n4_ n5_ n6_ n7_
      clear hb hbox hg
      refine hK.out _ _ ⟨(blk_cell BK665.out 0).trans rfl,(blk_cell BK665.out 1).trans rfl⟩ (fun hHeld => ?_)
      clear hK K
      refine norm_ (a':=?_) ?_ ?_
      rotate_left
      ·show Act.put _ (some 12) _ = _
       simp only [Act.put,List.setIfInBounds_toArray,List.set_cons_zero,List.set_cons_succ,i64_w,i32_w]
       rfl
      refine one_ (i:=3) (N:=some 37) #[true,true,true,true,true,true,true,false,false,false,false,true,false,false] rfl rfl (one_of HT_.out (by kernel_rfl)) (by decide) (fun K hK => ?_)
      refine goes_ Tryd.func20 (by kernel_rfl) rfl #[.agg #[.int .i64 a1_0,.slice A1_1 l1_1.length c1_1]] (by rfl) rfl rfl (by (try simp only [List.map_toArray,List.map_cons,List.map_nil]);first|done|rfl|(simp only [List.length_drop,List.length_take];rfl)) ?_
      with_reducible refine (laws_toNursery.calls k a1_0 _ _ l1_1 t671 t672 _ ?side1 ?side2 A15.out).mono ?_
      (case side1 => repeat (first|exact (Kd.C_below HR1_1.out HB.out)|(with_reducible first|refine Kd.C_alloc ?_ _|refine Kd.C_drewN ?_ _|refine Kd.C_drew ?_)))
      (case side2 => exact HC1_1.out)
      rintro e w27 ⟨v673,rfl,ho0,hb⟩
      refine ⟨_,rfl,?_⟩
      have n0_:=am (Kd.R_below (kup HO670.out) hb)
      have n1_:=am (Kd.R_lower ho0 (below_size (lup HB.out)))
      have n2_:=am (blk_below (bup BK665.out) hb)
      have n3_:=am (blk_below (bup BK680.out) hb)
      have n4_:=am (below_step (lup HB.out) hb)
      clear HO670
      clear BK665
      clear BK680
      clear HB
      have HO670:=n0_
      have HO674:=n1_
      have BK665:=n2_
      have BK680:=n3_
      have HB:=n4_
      clear n0_ n1_ n2_ n3_ n4_
      (try clear hb)
      (try clear hb2)
      (try clear hk)
      (try clear hi)
      (try clear ho0)
      obtain ⟨Ao28,co28,eo28⟩:=Kd.R_slice HO670.out
      (first|subst eo28|(injection eo28 with f1_ f2_ f3_;have f4_:=f1_.symm;have f5_:=f3_.symm;clear f1_ f2_ f3_;subst f4_;subst f5_))
      obtain ⟨Ao29,co29,eo29⟩:=Kd.R_slice HO674.out
      (first|subst eo29|(injection eo29 with f1_ f2_ f3_;have f4_:=f1_.symm;have f5_:=f3_.symm;clear f1_ f2_ f3_;subst f4_;subst f5_))
      refine hK.out _ _ ⟨(blk_cell BK665.out 0).trans rfl,(blk_cell BK665.out 1).trans rfl⟩ (fun hHeld => ?_)
      clear hK K
      refine norm_ (a':=?_) ?_ ?_
      rotate_left
      ·show Act.put _ (some 37) _ = _
       simp only [Act.put,List.setIfInBounds_toArray,List.set_cons_zero,List.set_cons_succ,i64_w,i32_w]
       rfl
      refine one_ (i:=7) (N:=some 41) #[true,true,true,true,true,true,true,true,false,false,false,true,false,false] rfl rfl (one_of HT_.out (by kernel_rfl)) (by decide) (fun K hK => ?_)
      refine goes_ Tryd.func41 (by kernel_rfl) rfl #[.slice Ao28 t668.length co28,.agg #[.int .i64 t671,.slice Ao29 t672.length co29],.int .i64 a2,.int .i64 a3,.int .i64 a4] (by rfl) rfl rfl (by (try simp only [List.map_toArray,List.map_cons,List.map_nil]);first|done|rfl|(simp only [List.length_drop,List.length_take];rfl)) ?_
      with_reducible refine (spec_YoungSet.calls k _ _ t668 t671 _ _ t672 a2 a3 a4 t675 t676 t679 _ ?side1 ?side2 ?side3 ?side4 A16.out).mono ?_
      (case side1 => repeat (first|exact (Kd.R_reads' HO670.out).2.2|(with_reducible first|refine Kd.C_alloc ?_ _|refine Kd.C_drewN ?_ _|refine Kd.C_drew ?_)))
      (case side2 => exact (Kd.R_reads' HO670.out).2.1)
      (case side3 => repeat (first|exact (Kd.R_reads' HO674.out).2.2|(with_reducible first|refine Kd.C_alloc ?_ _|refine Kd.C_drewN ?_ _|refine Kd.C_drew ?_)))
      (case side4 => exact (Kd.R_reads' HO674.out).2.1)
      rintro e w30 ⟨v677,rfl,ho0,hb⟩
      refine ⟨_,rfl,?_⟩
      have n0_:=am (Kd.R_below (kup HO670.out) hb)
      have n1_:=am (Kd.R_elder' (kup HO674.out) (Kd.R_base ho0) hb)
      have n2_:=am (Kd.R_lower (Kd.R_new' ho0 (Kd.R_lt (kup HO674.out))) (below_size (lup HB.out)))
      have n3_:=am (blk_below (bup BK665.out) hb)
      have n4_:=am (blk_below (bup BK680.out) hb)
      have n5_:=am (below_step (lup HB.out) hb)
      clear HO670
      clear HO674
      clear BK665
      clear BK680
      clear HB
      have HO670:=n0_
      have HO674:=n1_
      have HO678:=n2_
      have BK665:=n3_
      have BK680:=n4_
      have HB:=n5_
      clear n0_ n1_ n2_ n3_ n4_ n5_
      (try clear hb)
      (try clear hb2)
      (try clear hk)
      (try clear hi)
      (try clear ho0)
      refine hK.out _ _ ⟨(blk_cell BK665.out 0).trans rfl,(blk_cell BK665.out 1).trans rfl⟩ (fun hHeld => ?_)
      clear hK K
      refine norm_ (a':=?_) ?_ ?_
      rotate_left
      ·show Act.put _ (some 41) _ = _
       simp only [Act.put,List.setIfInBounds_toArray,List.set_cons_zero,List.set_cons_succ,i64_w,i32_w]
       rfl
      refine pure_ (i:=8) (N:=some 33) (v:=?_) (a':=?_) #[true,true,true,true,true,true,true,true,true,false,false,true,false,false] rfl rfl (any_of HT_.out (by kernel_rfl)) (fun _ _ _ h => h) (Or.inl ⟨by rfl,?_⟩) ?_ ?_
      rotate_left
      ·intro w'
       go_simp
       with_reducible rfl
      rotate_left
      ·simp only [Act.put,List.setIfInBounds_toArray,List.set_cons_zero,List.set_cons_succ,i64_w,i32_w]
       rfl
      refine pure_ (i:=9) (N:=some 42) (v:=?_) (a':=?_) #[true,true,true,true,true,true,true,true,true,true,false,true,false,false] rfl rfl (any_of HT_.out (by kernel_rfl)) (fun _ _ _ h => h) (Or.inl ⟨by rfl,?_⟩) ?_ ?_
      rotate_left
      ·intro w'
       go_simp
       with_reducible rfl
      rotate_left
      ·simp only [Act.put,List.setIfInBounds_toArray,List.set_cons_zero,List.set_cons_succ,i64_w,i32_w]
       rfl
      refine pure_ (i:=10) (N:=some 43) (v:=?_) (a':=?_) #[true,true,true,true,true,true,true,true,true,true,true,true,false,false] rfl rfl (any_of HT_.out (by kernel_rfl)) (fun _ _ _ h => h) (Or.inl ⟨by rfl,?_⟩) ?_ ?_
      rotate_left
      ·intro w'
       go_simp
       with_reducible rfl
      rotate_left
      ·simp only [Act.put,List.setIfInBounds_toArray,List.set_cons_zero,List.set_cons_succ,i64_w,i32_w]
       rfl
      exact norm_ (by simp only [putAll,Act.put,List.setIfInBounds_toArray,List.set_cons_zero,List.set_cons_succ]) (hCont (.slice Ao28 t668.length co28,.slice Ao29 t672.length co29,v677,gb680) _ ⟨hHeld,(kup HO670.out),(kup (Kd.R_mono HO674.out (fun _ hk => hk.2))),(kup (Kd.R_mono HO678.out (fun _ hk => hk.2))),(bup BK665.out),(bup BK680.out),GW680.out,GE680.out,NB665_680.out,NB680_665.out,(lup HB.out)⟩)
    ·skip
     refine box_step ?hg (N:=12) ?hd (cs:=#[.int .i64 0,.slice none 0 0]) (t:=30) ?hr ?_;(case hd => rfl);(case hg => rfl);(case hr => first|(go_simp;done)|(go_simp;rfl))
     intro gb680 hg w25 hbox hb
     have n0_:=am (blk_below (bup BK665.out) hb)
     have n1_:=am (below_step (lup HB.out) hb)
     have n2_:=am (hbox)
     have n3_:=am ((by rw [hg];exact (below_size (lup HB.out)) : w.heap.size ≤ gb680))
     have n4_:=am ((by rw [hg];exact (below_size (lup HB.out)) : w.heap.size ≤ gb680))
     have n5_:=am ((by rw [hg];exact Nat.ne_of_lt (blk_lt (bup BK665.out)) : gb665≠gb680))
     have n6_:=am ((by rw [hg];exact Nat.ne_of_gt (blk_lt (bup BK665.out)) : gb680≠gb665))
     clear BK665
     clear HB
     have BK665:=n0_
     have HB:=n1_
     have BK680:=n2_
     have GW680:=n3_
     have GE680:=n4_
     have NB665_680:=n5_
     have NB680_665:=n6_
     clear n0_ n1_ n2_ n3_ n4_ n5_ n6_
     clear hb hbox hg
     refine hK.out _ _ ⟨(blk_cell BK665.out 0).trans rfl,(blk_cell BK665.out 1).trans rfl⟩ (fun hHeld => ?_)
     clear hK K
     refine norm_ (a':=?_) ?_ ?_
     rotate_left
     ·show Act.put _ (some 12) _ = _
      simp only [Act.put,List.setIfInBounds_toArray,List.set_cons_zero,List.set_cons_succ,i64_w,i32_w]
      rfl
     refine one_ (i:=1) (N:=some 35) #[true,true,true,false,true,true,true,false,false,false,false,true,false,false] rfl rfl (one_of HT_.out (by kernel_rfl)) (by decide) (fun K hK => ?_)
     refine goes_ Tryd.func19 (by kernel_rfl) rfl #[.slice A0 l0.length c0] (by rfl) rfl rfl (by (try simp only [List.map_toArray,List.map_cons,List.map_nil]);first|done|rfl|(simp only [List.length_drop,List.length_take];rfl)) ?_
     with_reducible refine (laws_toStringS.calls k _ _ l0 t668 _ ?side1 ?side2 A14.out).mono ?_
     (case side1 => repeat (first|exact (Kd.C_below HR0.out HB.out)|(with_reducible first|refine Kd.C_alloc ?_ _|refine Kd.C_drewN ?_ _|refine Kd.C_drew ?_)))
     (case side2 => exact HC0.out)
     rintro e w26 ⟨v669,rfl,ho0,hb⟩
     refine ⟨_,rfl,?_⟩
     have n0_:=am (Kd.R_lower ho0 (below_size (lup HB.out)))
     have n1_:=am (blk_below (bup BK665.out) hb)
     have n2_:=am (blk_below (bup BK680.out) hb)
     have n3_:=am (below_step (lup HB.out) hb)
     clear BK665
     clear BK680
     clear HB
     have HO670:=n0_
     have BK665:=n1_
     have BK680:=n2_
     have HB:=n3_
     clear n0_ n1_ n2_ n3_
     (try clear hb)
     (try clear hb2)
     (try clear hk)
     (try clear hi)
     (try clear ho0)
     refine hK.out _ _ ⟨(blk_cell BK665.out 0).trans rfl,(blk_cell BK665.out 1).trans rfl⟩ (fun hHeld => ?_)
     clear hK K
     refine norm_ (a':=?_) ?_ ?_
     rotate_left
     ·show Act.put _ (some 35) _ = _
      simp only [Act.put,List.setIfInBounds_toArray,List.set_cons_zero,List.set_cons_succ,i64_w,i32_w]
      rfl
     refine one_ (i:=3) (N:=some 37) #[true,true,true,true,true,true,true,false,false,false,false,true,false,false] rfl rfl (one_of HT_.out (by kernel_rfl)) (by decide) (fun K hK => ?_)
     refine goes_ Tryd.func20 (by kernel_rfl) rfl #[.agg #[.int .i64 a1_0,.slice A1_1 l1_1.length c1_1]] (by rfl) rfl rfl (by (try simp only [List.map_toArray,List.map_cons,List.map_nil]);first|done|rfl|(simp only [List.length_drop,List.length_take];rfl)) ?_
     with_reducible refine (laws_toNursery.calls k a1_0 _ _ l1_1 t671 t672 _ ?side1 ?side2 A15.out).mono ?_
     (case side1 => repeat (first|exact (Kd.C_below HR1_1.out HB.out)|(with_reducible first|refine Kd.C_alloc ?_ _|refine Kd.C_drewN ?_ _|refine Kd.C_drew ?_)))
     (case side2 => exact HC1_1.out)
     rintro e w27 ⟨v673,rfl,ho0,hb⟩
     refine ⟨_,rfl,?_⟩
     have n0_:=am (Kd.R_below (kup HO670.out) hb)
     have n1_:=am (Kd.R_lower ho0 (below_size (lup HB.out)))
     have n2_:=am (blk_below (bup BK665.out) hb)
     have n3_:=am (blk_below (bup BK680.out) hb)
     have n4_:=am (below_step (lup HB.out) hb)
     clear HO670
     clear BK665
     clear BK680
     clear HB
     have HO670:=n0_
     have HO674:=n1_
     have BK665:=n2_
     have BK680:=n3_
     have HB:=n4_
     clear n0_ n1_ n2_ n3_ n4_
     (try clear hb)
     (try clear hb2)
     (try clear hk)
     (try clear hi)
     (try clear ho0)
     obtain ⟨Ao28,co28,eo28⟩:=Kd.R_slice HO670.out
     (first|subst eo28|(injection eo28 with f1_ f2_ f3_;have f4_:=f1_.symm;have f5_:=f3_.symm;clear f1_ f2_ f3_;subst f4_;subst f5_))
     obtain ⟨Ao29,co29,eo29⟩:=Kd.R_slice HO674.out
     (first|subst eo29|(injection eo29 with f1_ f2_ f3_;have f4_:=f1_.symm;have f5_:=f3_.symm;clear f1_ f2_ f3_;subst f4_;subst f5_))
     refine hK.out _ _ ⟨(blk_cell BK665.out 0).trans rfl,(blk_cell BK665.out 1).trans rfl⟩ (fun hHeld => ?_)
     clear hK K
     refine norm_ (a':=?_) ?_ ?_
     rotate_left
     ·show Act.put _ (some 37) _ = _
      simp only [Act.put,List.setIfInBounds_toArray,List.set_cons_zero,List.set_cons_succ,i64_w,i32_w]
      rfl
     refine one_ (i:=7) (N:=some 41) #[true,true,true,true,true,true,true,true,false,false,false,true,false,false] rfl rfl (one_of HT_.out (by kernel_rfl)) (by decide) (fun K hK => ?_)
     refine goes_ Tryd.func41 (by kernel_rfl) rfl #[.slice Ao28 t668.length co28,.agg #[.int .i64 t671,.slice Ao29 t672.length co29],.int .i64 a2,.int .i64 a3,.int .i64 a4] (by rfl) rfl rfl (by (try simp only [List.map_toArray,List.map_cons,List.map_nil]);first|done|rfl|(simp only [List.length_drop,List.length_take];rfl)) ?_
     with_reducible refine (spec_YoungSet.calls k _ _ t668 t671 _ _ t672 a2 a3 a4 t675 t676 t679 _ ?side1 ?side2 ?side3 ?side4 A16.out).mono ?_
     (case side1 => repeat (first|exact (Kd.R_reads' HO670.out).2.2|(with_reducible first|refine Kd.C_alloc ?_ _|refine Kd.C_drewN ?_ _|refine Kd.C_drew ?_)))
     (case side2 => exact (Kd.R_reads' HO670.out).2.1)
     (case side3 => repeat (first|exact (Kd.R_reads' HO674.out).2.2|(with_reducible first|refine Kd.C_alloc ?_ _|refine Kd.C_drewN ?_ _|refine Kd.C_drew ?_)))
     (case side4 => exact (Kd.R_reads' HO674.out).2.1)
     rintro e w30 ⟨v677,rfl,ho0,hb⟩
     refine ⟨_,rfl,?_⟩
     have n0_:=am (Kd.R_below (kup HO670.out) hb)
     have n1_:=am (Kd.R_elder' (kup HO674.out) (Kd.R_base ho0) hb)
     have n2_:=am (Kd.R_lower (Kd.R_new' ho0 (Kd.R_lt (kup HO674.out))) (below_size (lup HB.out)))
     have n3_:=am (blk_below (bup BK665.out) hb)
     have n4_:=am (blk_below (bup BK680.out) hb)
     have n5_:=am (below_step (lup HB.out) hb)
     clear HO670
     clear HO674
     clear BK665
     clear BK680
     clear HB
     have HO670:=n0_
     have HO674:=n1_
     have HO678:=n2_
     have BK665:=n3_
     have BK680:=n4_
     have HB:=n5_
     clear n0_ n1_ n2_ n3_ n4_ n5_
     (try clear hb)
     (try clear hb2)
     (try clear hk)
     (try clear hi)
     (try clear ho0)
     refine hK.out _ _ ⟨(blk_cell BK665.out 0).trans rfl,(blk_cell BK665.out 1).trans rfl⟩ (fun hHeld => ?_)
     clear hK K
     refine norm_ (a':=?_) ?_ ?_
     rotate_left
     ·show Act.put _ (some 41) _ = _
      simp only [Act.put,List.setIfInBounds_toArray,List.set_cons_zero,List.set_cons_succ,i64_w,i32_w]
      rfl
     refine pure_ (i:=8) (N:=some 33) (v:=?_) (a':=?_) #[true,true,true,true,true,true,true,true,true,false,false,true,false,false] rfl rfl (any_of HT_.out (by kernel_rfl)) (fun _ _ _ h => h) (Or.inl ⟨by rfl,?_⟩) ?_ ?_
     rotate_left
     ·intro w'
      go_simp
      with_reducible rfl
     rotate_left
     ·simp only [Act.put,List.setIfInBounds_toArray,List.set_cons_zero,List.set_cons_succ,i64_w,i32_w]
      rfl
     refine pure_ (i:=9) (N:=some 42) (v:=?_) (a':=?_) #[true,true,true,true,true,true,true,true,true,true,false,true,false,false] rfl rfl (any_of HT_.out (by kernel_rfl)) (fun _ _ _ h => h) (Or.inl ⟨by rfl,?_⟩) ?_ ?_
     rotate_left
     ·intro w'
      go_simp
      with_reducible rfl
     rotate_left
     ·simp only [Act.put,List.setIfInBounds_toArray,List.set_cons_zero,List.set_cons_succ,i64_w,i32_w]
      rfl
     refine pure_ (i:=10) (N:=some 43) (v:=?_) (a':=?_) #[true,true,true,true,true,true,true,true,true,true,true,true,false,false] rfl rfl (any_of HT_.out (by kernel_rfl)) (fun _ _ _ h => h) (Or.inl ⟨by rfl,?_⟩) ?_ ?_
     rotate_left
     ·intro w'
      go_simp
      with_reducible rfl
     rotate_left
     ·simp only [Act.put,List.setIfInBounds_toArray,List.set_cons_zero,List.set_cons_succ,i64_w,i32_w]
      rfl
     exact norm_ (by simp only [putAll,Act.put,List.setIfInBounds_toArray,List.set_cons_zero,List.set_cons_succ]) (hCont (.slice Ao28 t668.length co28,.slice Ao29 t672.length co29,v677,gb680) _ ⟨hHeld,(kup HO670.out),(kup (Kd.R_mono HO674.out (fun _ hk => hk.2))),(kup (Kd.R_mono HO678.out (fun _ hk => hk.2))),(bup BK665.out),(bup BK680.out),GW680.out,GE680.out,NB665_680.out,NB680_665.out,(lup HB.out)⟩)
   rintro ⟨v669,v673,v677,gb680⟩ w31 ⟨hS_,h0_,h1_,h2_,h3_,h4_,h5_,h6_,h7_,h8_,h9_⟩
   have n0_ : Aside0 (Kd.R Kd.string 9 w31 w.heap.size (fun _ => True) v669 t668):=⟨h0_⟩
   have n1_ : Aside0 (Kd.R (Kd.int .i64) 2 w31 w.heap.size (fun k_ => some k_≠(v677 : Value).ownBlock) v673 t672):=⟨h1_⟩
   have n2_ : Aside0 (Kd.R (Kd.int .i64) 2 w31 w.heap.size (fun k_ => some k_≠(v673 : Value).ownBlock) v677 t676):=⟨h2_⟩
   have n3_ : Aside0 (w31.heap[gb665]? = some (.cells #[.int .i64 a1_0,.slice A1_1 l1_1.length c1_1] 25 (0,0))):=⟨h3_⟩
   have n4_ : Aside0 (w31.heap[gb680]? = some (.cells #[.int .i64 0,.slice none 0 0] 30 (0,0))):=⟨h4_⟩
   have n5_ : Aside0 (w.heap.size ≤ gb680):=⟨h5_⟩
   have n6_ : Aside0 (w.heap.size ≤ gb680):=⟨h6_⟩
   have n7_ : Aside0 (gb665≠gb680):=⟨h7_⟩
   have n8_ : Aside0 (gb680≠gb665):=⟨h8_⟩
   have n9_ : Aside0 (Below w.heap.size w w31):=⟨h9_⟩
   clear BK665
   clear HB
   clear h0_ h1_ h2_ h3_ h4_ h5_ h6_ h7_ h8_ h9_
   have HO670:=n0_
   have HO674:=n1_
   have HO678:=n2_
   have BK665:=n3_
   have BK680:=n4_
   have GW680:=n5_
   have GE680:=n6_
   have NB665_680:=n7_
   have NB680_665:=n8_
   have HB:=n9_
   clear n0_ n1_ n2_ n3_ n4_ n5_ n6_ n7_ n8_ n9_
   have hHeld : w31.cell? ⟨gb665,0,none⟩ = some (.int .i64 a1_0)∧w31.cell? ⟨gb665,1,none⟩ = some (.slice A1_1 l1_1.length c1_1):=hS_
   obtain ⟨Ao33,co33,eo33⟩:=Kd.R_slice HO678.out
   (first|subst eo33|(injection eo33 with f1_ f2_ f3_;have f4_:=f1_.symm;have f5_:=f3_.symm;clear f1_ f2_ f3_;subst f4_;subst f5_))
   refine norm_ (a':=?_) ?_ ?_
   rotate_left
   ·simp only [putAll,Act.put,List.setIfInBounds_toArray,List.set_cons_zero,List.set_cons_succ]
    rfl
   refine one_ (i:=12) (N:=none) #[true,true,true,true,true,true,true,true,true,true,true,true,true,false] rfl rfl (one_of HT_.out (by kernel_rfl)) (by decide) (fun K hK => ?_)
   have hs32 : w31.cell? ⟨gb680,0,none⟩ = some (.int .i64 0):=(blk_cell BK680.out 0).trans rfl
   have hfs32:=blk_frozen BK680.out 0
   have hns32_0:=NB665_680.out
   have hms32_0:=NB680_665.out
   have hs34 : w31.cell? ⟨gb680,1,none⟩ = some (.slice none 0 0):=(blk_cell BK680.out 1).trans rfl
   have hfs34:=blk_frozen BK680.out 1
   have hns34_0:=NB665_680.out
   have hms34_0:=NB680_665.out
   refine skip_ (w1:=?_) (by rfl) rfl ?_ ?_
   rotate_left
   ·go_simp
    rfl
   refine hK.out _ _ ⟨((cell_far (p:=⟨gb680,_,none⟩) NB665_680.out _).trans (((cell_far (p:=⟨gb680,_,none⟩) NB665_680.out _).trans (hHeld.1)))),((cell_far (p:=⟨gb680,_,none⟩) NB665_680.out _).trans (((cell_far (p:=⟨gb680,_,none⟩) NB665_680.out _).trans (hHeld.2))))⟩ (fun hHeld => ?_)
   clear hK K
   refine pure_ (i:=13) (N:=some 13) (v:=?_) (a':=?_) #[true,true,true,true,true,true,true,true,true,true,true,true,true,true] rfl rfl (any_of HT_.out (by kernel_rfl)) (fun _ _ _ h => h) (Or.inl ⟨by rfl,?_⟩) ?_ ?_
   rotate_left
   ·intro w'
    go_simp
    with_reducible rfl
   rotate_left
   ·simp only [Act.put,List.setIfInBounds_toArray,List.set_cons_zero,List.set_cons_succ,i64_w,i32_w]
    rfl
   refine done_ (done_of HT_.out (by kernel_rfl)) ?_
   go_upto_region 12 with (first|((with_reducible refine gate_callee (f:=19) rfl ?_);refine goesL_ (some 45) rfl rfl Tryd.func19 (by kernel_rfl) rfl #[.slice A0 l0.length c0] rfl (by (try simp only [List.map_toArray,List.map_cons,List.map_nil]);first|done|rfl|(simp only [List.length_drop,List.length_take];rfl)) ?_;(with_reducible refine (laws_toStringS.calls k _ _ l0 t681 _ ?side1 ?side2 A17.out).mono ?_);(case side1 => exact Kd.C_below HR0.out (by repeat (first|(with_reducible first|exact HB.out|apply below_alloc|apply pw_below_drewN|apply below_drew1|refine below_set ?_ GE665.out|refine below_set ?_ GE680.out)|exact HB.out)));(case side2 => exact HC0.out);rintro e w35 ⟨v682,rfl,ho0,hb⟩;refine ⟨_,rfl,?_⟩;have n0_:=am (Kd.R_elder' (by (with_reducible repeat (first|apply Kd.R_alloc|apply Kd.R_drewN|apply Kd.R_drew));exact (Kd.R_mono (Kd.R_far (p:=⟨gb680,1,none⟩) (Kd.R_far (p:=⟨gb680,0,none⟩) (Kd.R_types HO670.out BK680.out (by decide)) (fun _ hk => hk.2) (.int .i64 t675)) (fun _ hk => hk.2) (.slice Ao33 t676.length co33)) (fun _ h_ => h_.1))) (Kd.R_base ho0) hb);have n1_:=am (Kd.R_below (by (with_reducible repeat (first|apply Kd.R_alloc|apply Kd.R_drewN|apply Kd.R_drew));exact (Kd.R_mono (Kd.R_far (p:=⟨gb680,1,none⟩) (Kd.R_far (p:=⟨gb680,0,none⟩) (Kd.R_types HO674.out BK680.out (by decide)) (fun _ hk => hk.2) (.int .i64 t675)) (fun _ hk => hk.2) (.slice Ao33 t676.length co33)) (fun _ h_ => h_.1))) hb);have n2_:=am (Kd.R_below (by (with_reducible repeat (first|apply Kd.R_alloc|apply Kd.R_drewN|apply Kd.R_drew));exact (Kd.R_mono (Kd.R_far (p:=⟨gb680,1,none⟩) (Kd.R_far (p:=⟨gb680,0,none⟩) (Kd.R_types HO678.out BK680.out (by decide)) (fun _ hk => hk.2) (.int .i64 t675)) (fun _ hk => hk.2) (.slice Ao33 t676.length co33)) (fun _ h_ => h_.1))) hb);have n3_:=am (Kd.R_lower (Kd.R_new' ho0 (Kd.R_lt (by (with_reducible repeat (first|apply Kd.R_alloc|apply Kd.R_drewN|apply Kd.R_drew));exact (Kd.R_mono (Kd.R_far (p:=⟨gb680,1,none⟩) (Kd.R_far (p:=⟨gb680,0,none⟩) (Kd.R_types HO670.out BK680.out (by decide)) (fun _ hk => hk.2) (.int .i64 t675)) (fun _ hk => hk.2) (.slice Ao33 t676.length co33)) (fun _ h_ => h_.1))))) (below_size (by repeat (first|(with_reducible first|exact HB.out|apply below_alloc|apply pw_below_drewN|apply below_drew1|refine below_set ?_ GE665.out|refine below_set ?_ GE680.out)|exact HB.out))));have n4_:=am (blk_below (g:=gb665) (o:=.cells #[.int .i64 a1_0,.slice A1_1 l1_1.length c1_1] 25 (0,0)) (by (with_reducible repeat (first|refine blk_drewN ?_ _|refine blk_drew ?_|refine blk_alloc ?_ _));refine blk_far ?_ NB665_680.out _;(with_reducible repeat (first|refine blk_drewN ?_ _|refine blk_drew ?_|refine blk_alloc ?_ _));refine blk_far ?_ NB665_680.out _;(with_reducible repeat (first|refine blk_drewN ?_ _|refine blk_drew ?_|refine blk_alloc ?_ _));exact BK665.out) hb);have n5_:=am (blk_below (g:=gb680) (o:=.cells #[.int .i64 t675,.slice Ao33 t676.length co33] 30 (0,0)) (by (with_reducible repeat (first|refine blk_drewN ?_ _|refine blk_drew ?_|refine blk_alloc ?_ _));refine blk_put (cs:=#[.int .i64 t675,.slice none 0 0]) ?_ 1 _ rfl;(with_reducible repeat (first|refine blk_drewN ?_ _|refine blk_drew ?_|refine blk_alloc ?_ _));refine blk_put (cs:=#[.int .i64 0,.slice none 0 0]) ?_ 0 _ rfl;(with_reducible repeat (first|refine blk_drewN ?_ _|refine blk_drew ?_|refine blk_alloc ?_ _));exact BK680.out) hb);have n6_:=am (below_step (by repeat (first|(with_reducible first|exact HB.out|apply below_alloc|apply pw_below_drewN|apply below_drew1|refine below_set ?_ GE665.out|refine below_set ?_ GE680.out)|exact HB.out)) hb);clear HO670 HO674 HO678 BK665 BK680 HB;have HO670:=n0_;have HO674:=n1_;have HO678:=n2_;have HO683:=n3_;have BK665:=n4_;have BK680:=n5_;have HB:=n6_;clear n0_ n1_ n2_ n3_ n4_ n5_ n6_;(try clear hb);(try clear hb2);(try clear hk);(try clear hi);(try clear ho0);have hnb36:=NB665_680.out;have hnc36:=NB680_665.out;have hcz37_0 : w35.cell? ⟨gb665,0,none⟩ = some (.int .i64 a1_0):=(blk_cell BK665.out 0).trans rfl;have hcz37_1 : w35.cell? ⟨gb665,1,none⟩ = some (.slice A1_1 l1_1.length c1_1):=(blk_cell BK665.out 1).trans rfl;have hfz37_0:=blk_frozen BK665.out 0;have hfz37_1:=blk_frozen BK665.out 1)|((with_reducible refine gate_callee (f:=20) rfl ?_);refine goesL_ (some 47) rfl rfl Tryd.func20 (by kernel_rfl) rfl #[.agg #[.int .i64 a1_0,.slice A1_1 l1_1.length c1_1]] rfl (by (try simp only [List.map_toArray,List.map_cons,List.map_nil]);first|done|rfl|(simp only [List.length_drop,List.length_take];rfl)) ?_;(with_reducible refine (laws_toNursery.calls k a1_0 _ _ l1_1 t684 t685 _ ?side1 ?side2 A18.out).mono ?_);(case side1 => repeat (first|exact (Kd.C_below HR1_1.out HB.out)|(with_reducible first|refine Kd.C_alloc ?_ _|refine Kd.C_drewN ?_ _|refine Kd.C_drew ?_)));(case side2 => exact HC1_1.out);rintro e w38 ⟨v686,rfl,ho0,hb⟩;refine ⟨_,rfl,?_⟩;have n0_:=am (Kd.R_below (kup HO670.out) hb);have n1_:=am (Kd.R_elder' (kup HO674.out) (Kd.R_base ho0) hb);have n2_:=am (Kd.R_elder' (kup HO678.out) (Kd.R_base ho0) hb);have n3_:=am (Kd.R_below (kup HO683.out) hb);have n4_:=am (Kd.R_lower (Kd.R_new' (Kd.R_new' ho0 (Kd.R_lt (kup HO674.out))) (Kd.R_lt (kup HO678.out))) (below_size (by repeat (first|(with_reducible first|exact HB.out|apply below_alloc|apply pw_below_drewN|apply below_drew1|refine below_set ?_ GE665.out|refine below_set ?_ GE680.out)|exact HB.out))));have n5_:=am (blk_below (g:=gb665) (o:=.cells #[.int .i64 a1_0,.slice A1_1 l1_1.length c1_1] 25 (0,0)) (bup BK665.out) hb);have n6_:=am (blk_below (g:=gb680) (o:=.cells #[.int .i64 t675,.slice Ao33 t676.length co33] 30 (0,0)) (bup BK680.out) hb);have n7_:=am (below_step (by repeat (first|(with_reducible first|exact HB.out|apply below_alloc|apply pw_below_drewN|apply below_drew1|refine below_set ?_ GE665.out|refine below_set ?_ GE680.out)|exact HB.out)) hb);clear HO670 HO674 HO678 HO683 BK665 BK680 HB;have HO670:=n0_;have HO674:=n1_;have HO678:=n2_;have HO683:=n3_;have HO687:=n4_;have BK665:=n5_;have BK680:=n6_;have HB:=n7_;clear n0_ n1_ n2_ n3_ n4_ n5_ n6_ n7_;(try clear hb);(try clear hb2);(try clear hk);(try clear hi);(try clear ho0))|((with_reducible refine gate_dst (N:=15) rfl ?_);refine box_event ?hg (N:=15) ?hd (cs:=#[.int .i64 0,.slice none 0 0]) (t:=30) ?hr ?_;(case hd => rfl);(case hg => rfl);(case hr => first|(go_simp;done)|(go_simp;rfl));intro gb688 hg w39 hbox hb;have n0_:=am (Kd.R_below (kup HO670.out) hb);have n1_:=am (Kd.R_below (kup HO674.out) hb);have n2_:=am (Kd.R_below (kup HO678.out) hb);have n3_:=am (Kd.R_below (kup HO683.out) hb);have n4_:=am (Kd.R_below (kup HO687.out) hb);have n5_:=am (blk_below (g:=gb665) (o:=.cells #[.int .i64 a1_0,.slice A1_1 l1_1.length c1_1] 25 (0,0)) (bup BK665.out) hb);have n6_:=am (blk_below (g:=gb680) (o:=.cells #[.int .i64 t675,.slice Ao33 t676.length co33] 30 (0,0)) (bup BK680.out) hb);have n7_:=am (below_step (by repeat (first|(with_reducible first|exact HB.out|apply below_alloc|apply pw_below_drewN|apply below_drew1|refine below_set ?_ GE665.out|refine below_set ?_ GE680.out)|exact HB.out)) hb);have n8_:=am (hbox);have n9_:=am ((by rw [hg];exact (below_size (by repeat (first|(with_reducible first|exact HB.out|apply below_alloc|apply pw_below_drewN|apply below_drew1|refine below_set ?_ GE665.out|refine below_set ?_ GE680.out)|exact HB.out))) : w.heap.size ≤ gb688));have n10_:=am ((by rw [hg];exact (below_size (by repeat (first|(with_reducible first|exact HB.out|apply below_alloc|apply pw_below_drewN|apply below_drew1|refine below_set ?_ GE665.out|refine below_set ?_ GE680.out)|exact HB.out))) : w.heap.size ≤ gb688));have n11_:=am ((by rw [hg];exact Nat.ne_of_lt (blk_lt (g:=gb665) (o:=.cells #[.int .i64 a1_0,.slice A1_1 l1_1.length c1_1] 25 (0,0)) (bup BK665.out)) : gb665≠gb688));have n12_:=am ((by rw [hg];exact Nat.ne_of_gt (blk_lt (g:=gb665) (o:=.cells #[.int .i64 a1_0,.slice A1_1 l1_1.length c1_1] 25 (0,0)) (bup BK665.out)) : gb688≠gb665));have n13_:=am ((by rw [hg];exact Nat.ne_of_lt (blk_lt (g:=gb680) (o:=.cells #[.int .i64 t675,.slice Ao33 t676.length co33] 30 (0,0)) (bup BK680.out)) : gb680≠gb688));have n14_:=am ((by rw [hg];exact Nat.ne_of_gt (blk_lt (g:=gb680) (o:=.cells #[.int .i64 t675,.slice Ao33 t676.length co33] 30 (0,0)) (bup BK680.out)) : gb688≠gb680));clear HO670 HO674 HO678 HO683 HO687 BK665 BK680 HB;have HO670:=n0_;have HO674:=n1_;have HO678:=n2_;have HO683:=n3_;have HO687:=n4_;have BK665:=n5_;have BK680:=n6_;have HB:=n7_;have BK688:=n8_;have GW688:=n9_;have GE688:=n10_;have NB665_688:=n11_;have NB688_665:=n12_;have NB680_688:=n13_;have NB688_680:=n14_;clear n0_ n1_ n2_ n3_ n4_ n5_ n6_ n7_ n8_ n9_ n10_ n11_ n12_ n13_ n14_;clear hb hbox hg;have hnb40:=NB688_665.out;have hnc40:=NB665_688.out;have hnb41:=NB688_680.out;have hnc41:=NB680_688.out;have hcz42_0 : w39.cell? ⟨gb688,0,none⟩ = some (.int .i64 0):=(blk_cell BK688.out 0).trans rfl;have hcz42_1 : w39.cell? ⟨gb688,1,none⟩ = some (.slice none 0 0):=(blk_cell BK688.out 1).trans rfl;have hfz42_0:=blk_frozen BK688.out 0;have hfz42_1:=blk_frozen BK688.out 1;obtain ⟨Ao43,co43,eo43⟩:=Kd.R_slice HO687.out;subst eo43;obtain ⟨Ao44,co44,eo44⟩:=Kd.R_slice HO683.out;subst eo44)|((with_reducible refine gate_callee (f:=42) rfl ?_);refine goesL_ (some 54) rfl rfl Tryd.func42 (by kernel_rfl) rfl #[.slice Ao44 t681.length co44,.agg #[.int .i64 t684,.slice Ao43 t685.length co43],.int .i64 a2,.int .i64 a3,.int .i64 a4] rfl (by (try simp only [List.map_toArray,List.map_cons,List.map_nil]);first|done|rfl|(simp only [List.length_drop,List.length_take];rfl)) ?_;(with_reducible refine (impl_YoungSet.calls k _ _ t681 t684 _ _ t685 a2 a3 a4 t689 t690 t693 _ ?side1 ?side2 ?side3 ?side4 A19.out).mono ?_);(case side1 => refine (Kd.R_reads' (e:=9) (base:=w.heap.size) (ok:=fun k_ => (True∧some k_≠(v669 : Value).ownBlock)) (n:=t681.length) (c:=co44) ?_).2.2;exact (by (with_reducible repeat (first|apply Kd.R_alloc|apply Kd.R_drewN|apply Kd.R_drew));exact (Kd.R_mono (Kd.R_far (p:=⟨gb688,1,none⟩) (Kd.R_far (p:=⟨gb688,0,none⟩) (Kd.R_types HO683.out BK688.out (by decide)) (fun _ hk => hk.2) (.int .i64 t684)) (fun _ hk => hk.2) (.slice Ao43 t685.length co43)) (fun _ h_ => h_.1))));(case side2 => exact (Kd.R_reads' HO683.out).2.1);(case side3 => refine (Kd.R_reads' (e:=2) (base:=w.heap.size) (ok:=fun k_ => ((True∧some k_≠(v673 : Value).ownBlock)∧some k_≠(.slice Ao33 t676.length co33 : Value).ownBlock)) (n:=t685.length) (c:=co43) ?_).2.2;exact (by (with_reducible repeat (first|apply Kd.R_alloc|apply Kd.R_drewN|apply Kd.R_drew));exact (Kd.R_mono (Kd.R_far (p:=⟨gb688,1,none⟩) (Kd.R_far (p:=⟨gb688,0,none⟩) (Kd.R_types HO687.out BK688.out (by decide)) (fun _ hk => hk.2) (.int .i64 t684)) (fun _ hk => hk.2) (.slice Ao43 t685.length co43)) (fun _ h_ => h_.1))));(case side4 => exact (Kd.R_reads' HO687.out).2.1);rintro e w45 ⟨v691,rfl,ho0,hb⟩;refine ⟨_,rfl,?_⟩;have n0_:=am (Kd.R_below (by (with_reducible repeat (first|apply Kd.R_alloc|apply Kd.R_drewN|apply Kd.R_drew));exact (Kd.R_mono (Kd.R_far (p:=⟨gb688,1,none⟩) (Kd.R_far (p:=⟨gb688,0,none⟩) (Kd.R_types HO670.out BK688.out (by decide)) (fun _ hk => hk.2) (.int .i64 t684)) (fun _ hk => hk.2) (.slice Ao43 t685.length co43)) (fun _ h_ => h_.1))) hb);have n1_:=am (Kd.R_elder' (by (with_reducible repeat (first|apply Kd.R_alloc|apply Kd.R_drewN|apply Kd.R_drew));exact (Kd.R_mono (Kd.R_far (p:=⟨gb688,1,none⟩) (Kd.R_far (p:=⟨gb688,0,none⟩) (Kd.R_types HO674.out BK688.out (by decide)) (fun _ hk => hk.2) (.int .i64 t684)) (fun _ hk => hk.2) (.slice Ao43 t685.length co43)) (fun _ h_ => h_.1))) (Kd.R_base ho0) hb);have n2_:=am (Kd.R_elder' (by (with_reducible repeat (first|apply Kd.R_alloc|apply Kd.R_drewN|apply Kd.R_drew));exact (Kd.R_mono (Kd.R_far (p:=⟨gb688,1,none⟩) (Kd.R_far (p:=⟨gb688,0,none⟩) (Kd.R_types HO678.out BK688.out (by decide)) (fun _ hk => hk.2) (.int .i64 t684)) (fun _ hk => hk.2) (.slice Ao43 t685.length co43)) (fun _ h_ => h_.1))) (Kd.R_base ho0) hb);have n3_:=am (Kd.R_below (by (with_reducible repeat (first|apply Kd.R_alloc|apply Kd.R_drewN|apply Kd.R_drew));exact (Kd.R_mono (Kd.R_far (p:=⟨gb688,1,none⟩) (Kd.R_far (p:=⟨gb688,0,none⟩) (Kd.R_types HO683.out BK688.out (by decide)) (fun _ hk => hk.2) (.int .i64 t684)) (fun _ hk => hk.2) (.slice Ao43 t685.length co43)) (fun _ h_ => h_.1))) hb);have n4_:=am (Kd.R_elder' (by (with_reducible repeat (first|apply Kd.R_alloc|apply Kd.R_drewN|apply Kd.R_drew));exact (Kd.R_mono (Kd.R_far (p:=⟨gb688,1,none⟩) (Kd.R_far (p:=⟨gb688,0,none⟩) (Kd.R_types HO687.out BK688.out (by decide)) (fun _ hk => hk.2) (.int .i64 t684)) (fun _ hk => hk.2) (.slice Ao43 t685.length co43)) (fun _ h_ => h_.1))) (Kd.R_base ho0) hb);have n5_:=am (Kd.R_lower (Kd.R_new' (Kd.R_new' (Kd.R_new' ho0 (Kd.R_lt (by (with_reducible repeat (first|apply Kd.R_alloc|apply Kd.R_drewN|apply Kd.R_drew));exact (Kd.R_mono (Kd.R_far (p:=⟨gb688,1,none⟩) (Kd.R_far (p:=⟨gb688,0,none⟩) (Kd.R_types HO674.out BK688.out (by decide)) (fun _ hk => hk.2) (.int .i64 t684)) (fun _ hk => hk.2) (.slice Ao43 t685.length co43)) (fun _ h_ => h_.1))))) (Kd.R_lt (by (with_reducible repeat (first|apply Kd.R_alloc|apply Kd.R_drewN|apply Kd.R_drew));exact (Kd.R_mono (Kd.R_far (p:=⟨gb688,1,none⟩) (Kd.R_far (p:=⟨gb688,0,none⟩) (Kd.R_types HO678.out BK688.out (by decide)) (fun _ hk => hk.2) (.int .i64 t684)) (fun _ hk => hk.2) (.slice Ao43 t685.length co43)) (fun _ h_ => h_.1))))) (Kd.R_lt (by (with_reducible repeat (first|apply Kd.R_alloc|apply Kd.R_drewN|apply Kd.R_drew));exact (Kd.R_mono (Kd.R_far (p:=⟨gb688,1,none⟩) (Kd.R_far (p:=⟨gb688,0,none⟩) (Kd.R_types HO687.out BK688.out (by decide)) (fun _ hk => hk.2) (.int .i64 t684)) (fun _ hk => hk.2) (.slice Ao43 t685.length co43)) (fun _ h_ => h_.1))))) (below_size (by repeat (first|(with_reducible first|exact HB.out|apply below_alloc|apply pw_below_drewN|apply below_drew1|refine below_set ?_ GE665.out|refine below_set ?_ GE680.out|refine below_set ?_ GE688.out)|exact HB.out))));have n6_:=am (blk_below (g:=gb665) (o:=.cells #[.int .i64 a1_0,.slice A1_1 l1_1.length c1_1] 25 (0,0)) (by (with_reducible repeat (first|refine blk_drewN ?_ _|refine blk_drew ?_|refine blk_alloc ?_ _));refine blk_far ?_ NB665_688.out _;(with_reducible repeat (first|refine blk_drewN ?_ _|refine blk_drew ?_|refine blk_alloc ?_ _));refine blk_far ?_ NB665_688.out _;(with_reducible repeat (first|refine blk_drewN ?_ _|refine blk_drew ?_|refine blk_alloc ?_ _));exact BK665.out) hb);have n7_:=am (blk_below (g:=gb680) (o:=.cells #[.int .i64 t675,.slice Ao33 t676.length co33] 30 (0,0)) (by (with_reducible repeat (first|refine blk_drewN ?_ _|refine blk_drew ?_|refine blk_alloc ?_ _));refine blk_far ?_ NB680_688.out _;(with_reducible repeat (first|refine blk_drewN ?_ _|refine blk_drew ?_|refine blk_alloc ?_ _));refine blk_far ?_ NB680_688.out _;(with_reducible repeat (first|refine blk_drewN ?_ _|refine blk_drew ?_|refine blk_alloc ?_ _));exact BK680.out) hb);have n8_:=am (blk_below (g:=gb688) (o:=.cells #[.int .i64 t684,.slice Ao43 t685.length co43] 30 (0,0)) (by (with_reducible repeat (first|refine blk_drewN ?_ _|refine blk_drew ?_|refine blk_alloc ?_ _));refine blk_put (cs:=#[.int .i64 t684,.slice none 0 0]) ?_ 1 _ rfl;(with_reducible repeat (first|refine blk_drewN ?_ _|refine blk_drew ?_|refine blk_alloc ?_ _));refine blk_put (cs:=#[.int .i64 0,.slice none 0 0]) ?_ 0 _ rfl;(with_reducible repeat (first|refine blk_drewN ?_ _|refine blk_drew ?_|refine blk_alloc ?_ _));exact BK688.out) hb);have n9_:=am (below_step (by repeat (first|(with_reducible first|exact HB.out|apply below_alloc|apply pw_below_drewN|apply below_drew1|refine below_set ?_ GE665.out|refine below_set ?_ GE680.out|refine below_set ?_ GE688.out)|exact HB.out)) hb);clear HO670 HO674 HO678 HO683 HO687 BK665 BK680 BK688 HB;have HO670:=n0_;have HO674:=n1_;have HO678:=n2_;have HO683:=n3_;have HO687:=n4_;have HO692:=n5_;have BK665:=n6_;have BK680:=n7_;have BK688:=n8_;have HB:=n9_;clear n0_ n1_ n2_ n3_ n4_ n5_ n6_ n7_ n8_ n9_;(try clear hb);(try clear hb2);(try clear hk);(try clear hi);(try clear ho0))|((with_reducible refine gate_dst (N:=16) rfl ?_);refine box_event ?hg (N:=16) ?hd (cs:=#[.int .i64 0,.slice none 0 0]) (t:=30) ?hr ?_;(case hd => rfl);(case hg => rfl);(case hr => first|(go_simp;done)|(go_simp;rfl));intro gb694 hg w46 hbox hb;have n0_:=am (Kd.R_below (kup HO670.out) hb);have n1_:=am (Kd.R_below (kup HO674.out) hb);have n2_:=am (Kd.R_below (kup HO678.out) hb);have n3_:=am (Kd.R_below (kup HO683.out) hb);have n4_:=am (Kd.R_below (kup HO687.out) hb);have n5_:=am (Kd.R_below (kup HO692.out) hb);have n6_:=am (blk_below (g:=gb665) (o:=.cells #[.int .i64 a1_0,.slice A1_1 l1_1.length c1_1] 25 (0,0)) (bup BK665.out) hb);have n7_:=am (blk_below (g:=gb680) (o:=.cells #[.int .i64 t675,.slice Ao33 t676.length co33] 30 (0,0)) (bup BK680.out) hb);have n8_:=am (blk_below (g:=gb688) (o:=.cells #[.int .i64 t684,.slice Ao43 t685.length co43] 30 (0,0)) (bup BK688.out) hb);have n9_:=am (below_step (by repeat (first|(with_reducible first|exact HB.out|apply below_alloc|apply pw_below_drewN|apply below_drew1|refine below_set ?_ GE665.out|refine below_set ?_ GE680.out|refine below_set ?_ GE688.out)|exact HB.out)) hb);have n10_:=am (hbox);have n11_:=am ((by rw [hg];exact (below_size (by repeat (first|(with_reducible first|exact HB.out|apply below_alloc|apply pw_below_drewN|apply below_drew1|refine below_set ?_ GE665.out|refine below_set ?_ GE680.out|refine below_set ?_ GE688.out)|exact HB.out))) : w.heap.size ≤ gb694));have n12_:=am ((by rw [hg];exact (below_size (by repeat (first|(with_reducible first|exact HB.out|apply below_alloc|apply pw_below_drewN|apply below_drew1|refine below_set ?_ GE665.out|refine below_set ?_ GE680.out|refine below_set ?_ GE688.out)|exact HB.out))) : w.heap.size ≤ gb694));have n13_:=am ((by rw [hg];exact Nat.ne_of_lt (blk_lt (g:=gb665) (o:=.cells #[.int .i64 a1_0,.slice A1_1 l1_1.length c1_1] 25 (0,0)) (bup BK665.out)) : gb665≠gb694));have n14_:=am ((by rw [hg];exact Nat.ne_of_gt (blk_lt (g:=gb665) (o:=.cells #[.int .i64 a1_0,.slice A1_1 l1_1.length c1_1] 25 (0,0)) (bup BK665.out)) : gb694≠gb665));have n15_:=am ((by rw [hg];exact Nat.ne_of_lt (blk_lt (g:=gb680) (o:=.cells #[.int .i64 t675,.slice Ao33 t676.length co33] 30 (0,0)) (bup BK680.out)) : gb680≠gb694));have n16_:=am ((by rw [hg];exact Nat.ne_of_gt (blk_lt (g:=gb680) (o:=.cells #[.int .i64 t675,.slice Ao33 t676.length co33] 30 (0,0)) (bup BK680.out)) : gb694≠gb680));have n17_:=am ((by rw [hg];exact Nat.ne_of_lt (blk_lt (g:=gb688) (o:=.cells #[.int .i64 t684,.slice Ao43 t685.length co43] 30 (0,0)) (bup BK688.out)) : gb688≠gb694));have n18_:=am ((by rw [hg];exact Nat.ne_of_gt (blk_lt (g:=gb688) (o:=.cells #[.int .i64 t684,.slice Ao43 t685.length co43] 30 (0,0)) (bup BK688.out)) : gb694≠gb688));clear HO670 HO674 HO678 HO683 HO687 HO692 BK665 BK680 BK688 HB;have HO670:=n0_;have HO674:=n1_;have HO678:=n2_;have HO683:=n3_;have HO687:=n4_;have HO692:=n5_;have BK665:=n6_;have BK680:=n7_;have BK688:=n8_;have HB:=n9_;have BK694:=n10_;have GW694:=n11_;have GE694:=n12_;have NB665_694:=n13_;have NB694_665:=n14_;have NB680_694:=n15_;have NB694_680:=n16_;have NB688_694:=n17_;have NB694_688:=n18_;clear n0_ n1_ n2_ n3_ n4_ n5_ n6_ n7_ n8_ n9_ n10_ n11_ n12_ n13_ n14_ n15_ n16_ n17_ n18_;clear hb hbox hg;have hnb47:=NB694_665.out;have hnc47:=NB665_694.out;have hnb48:=NB694_680.out;have hnc48:=NB680_694.out;have hnb49:=NB694_688.out;have hnc49:=NB688_694.out;have hcz50_0 : w46.cell? ⟨gb694,0,none⟩ = some (.int .i64 0):=(blk_cell BK694.out 0).trans rfl;have hcz50_1 : w46.cell? ⟨gb694,1,none⟩ = some (.slice none 0 0):=(blk_cell BK694.out 1).trans rfl;have hfz50_0:=blk_frozen BK694.out 0;have hfz50_1:=blk_frozen BK694.out 1;obtain ⟨Ao51,co51,eo51⟩:=Kd.R_slice HO692.out;subst eo51))
   (try simp only [Act.put,List.setIfInBounds_toArray,List.set_cons_zero,List.set_cons_succ])
   go_cut [65] (fun v65 wc => ∃ (kq : Nat) (x65_19 : Bool),v65 = .bool x65_19∧Aside0 (laws_FnExactYoungSet.j0 kq l0 a2 a3 a4 t679 t681 t693 x65_19 a1_0 l1_1 t675 t676 t684 t685 t689 t690 = some r)∧Aside0 (kq ≤ k)∧Aside0 (Kd.R Kd.string 9 wc w.heap.size (fun _ => True) (.slice Ao44 t681.length co44) t681)∧Aside0 (Kd.R (Kd.int .i64) 2 wc w.heap.size (fun k_ => some k_≠((.slice Ao43 t685.length co43) : Value).ownBlock∧some k_≠((.slice Ao51 t690.length co51) : Value).ownBlock) (.slice Ao33 t676.length co33) t676)∧Aside0 (Kd.R (Kd.int .i64) 2 wc w.heap.size (fun k_ => some k_≠((.slice Ao33 t676.length co33) : Value).ownBlock∧some k_≠((.slice Ao51 t690.length co51) : Value).ownBlock) (.slice Ao43 t685.length co43) t685)∧Aside0 (Kd.R (Kd.int .i64) 2 wc w.heap.size (fun k_ => some k_≠((.slice Ao33 t676.length co33) : Value).ownBlock∧some k_≠((.slice Ao43 t685.length co43) : Value).ownBlock) (.slice Ao51 t690.length co51) t690)∧Aside0 (wc.heap[gb665]? = some (.cells #[.int .i64 a1_0,(.slice A1_1 l1_1.length c1_1)] 25 (0,0)))∧Aside0 (wc.heap[gb680]? = some (.cells #[.int .i64 t675,(.slice Ao33 t676.length co33)] 30 (0,0)))∧Aside0 (wc.heap[gb688]? = some (.cells #[.int .i64 t684,(.slice Ao43 t685.length co43)] 30 (0,0)))∧Aside0 (wc.heap[gb694]? = some (.cells #[.int .i64 t689,(.slice Ao51 t690.length co51)] 30 (0,0)))∧Aside0 (Below w.heap.size w wc))
   case first =>
    have H:=HC20.out
    clear HC20
    replace H:=Option.bind_eq_some_iff.mp H
    obtain ⟨t695,A520,H⟩:=H
    try dsimp only at H
    have A52:=am A520
    clear A520
    by_cases c53 : t695 = true
    ·subst c53
     have H1:=H;rw [if_pos rfl] at H1
     clear H
     have H:=H1
     clear H1
     have H':=am H
     clear H
     have hnb54:=NB694_665.out
     have hnc54:=NB665_694.out
     have hnb55:=NB694_680.out
     have hnc55:=NB680_694.out
     have hnb56:=NB694_688.out
     have hnc56:=NB688_694.out
     have hcz57_0 : w46.cell? ⟨gb694,0,none⟩ = some (.int .i64 0):=(blk_cell BK694.out 0).trans rfl
     have hcz57_1 : w46.cell? ⟨gb694,1,none⟩ = some (.slice none 0 0):=(blk_cell BK694.out 1).trans rfl
     have hfz57_0:=blk_frozen BK694.out 0
     have hfz57_1:=blk_frozen BK694.out 1
     have hnb58:=NB680_665.out
     have hnc58:=NB665_680.out
     have hnb59:=NB680_688.out
     have hnc59:=NB688_680.out
     have hcz60_0 : w46.cell? ⟨gb680,0,none⟩ = some (.int .i64 t675):=(blk_cell BK680.out 0).trans rfl
     have hcz60_1 : w46.cell? ⟨gb680,1,none⟩ = some (.slice Ao33 t676.length co33):=(blk_cell BK680.out 1).trans rfl
     have hfz60_0:=blk_frozen BK680.out 0
     have hfz60_1:=blk_frozen BK680.out 1
     go_wp2_with (first|((with_reducible refine gate_callee (f:=23) rfl ?_);refine goesL_ (some 59) rfl rfl Tryd.func23 (by kernel_rfl) rfl #[.agg #[.int .i64 t689,.slice Ao51 t690.length co51],.agg #[.int .i64 t675,.slice Ao33 t676.length co33]] rfl (by (try simp only [List.map_toArray,List.map_cons,List.map_nil]);first|done|rfl|(simp only [List.length_drop,List.length_take];rfl)) ?_;(with_reducible refine (laws_eqNursery.calls k t689 _ _ t690 t675 _ _ t676 true _ ?side1 ?side2 ?side3 ?side4 A52.out).mono ?_);(case side1 => refine (Kd.R_reads' (e:=2) (base:=w.heap.size) (ok:=fun k_ => (((True∧some k_≠(v673 : Value).ownBlock)∧some k_≠(.slice Ao33 t676.length co33 : Value).ownBlock)∧some k_≠(.slice Ao43 t685.length co43 : Value).ownBlock)) (n:=t690.length) (c:=co51) ?_).2.2;exact (by (with_reducible repeat (first|apply Kd.R_alloc|apply Kd.R_drewN|apply Kd.R_drew));exact (Kd.R_mono (Kd.R_far (p:=⟨gb694,1,none⟩) (Kd.R_far (p:=⟨gb694,0,none⟩) (Kd.R_types HO692.out BK694.out (by decide)) (fun _ hk => hk.2) (.int .i64 t689)) (fun _ hk => hk.2) (.slice Ao51 t690.length co51)) (fun _ h_ => h_.1))));(case side2 => exact (Kd.R_reads' HO692.out).2.1);(case side3 => refine (Kd.R_reads' (e:=2) (base:=w.heap.size) (ok:=fun k_ => ((some k_≠(v673 : Value).ownBlock∧some k_≠(.slice Ao43 t685.length co43 : Value).ownBlock)∧some k_≠(.slice Ao51 t690.length co51 : Value).ownBlock)) (n:=t676.length) (c:=co33) ?_).2.2;exact (by (with_reducible repeat (first|apply Kd.R_alloc|apply Kd.R_drewN|apply Kd.R_drew));exact (Kd.R_mono (Kd.R_far (p:=⟨gb694,1,none⟩) (Kd.R_far (p:=⟨gb694,0,none⟩) (Kd.R_types HO678.out BK694.out (by decide)) (fun _ hk => hk.2) (.int .i64 t689)) (fun _ hk => hk.2) (.slice Ao51 t690.length co51)) (fun _ h_ => h_.1))));(case side4 => exact (Kd.R_reads' HO678.out).2.1);rintro e w61 ⟨rfl,hb⟩;refine ⟨_,rfl,?_⟩;have n0_:=am (Kd.R_below (by (with_reducible repeat (first|apply Kd.R_alloc|apply Kd.R_drewN|apply Kd.R_drew));exact (Kd.R_mono (Kd.R_far (p:=⟨gb694,1,none⟩) (Kd.R_far (p:=⟨gb694,0,none⟩) (Kd.R_types HO670.out BK694.out (by decide)) (fun _ hk => hk.2) (.int .i64 t689)) (fun _ hk => hk.2) (.slice Ao51 t690.length co51)) (fun _ h_ => h_.1))) hb);have n1_:=am (Kd.R_below (by (with_reducible repeat (first|apply Kd.R_alloc|apply Kd.R_drewN|apply Kd.R_drew));exact (Kd.R_mono (Kd.R_far (p:=⟨gb694,1,none⟩) (Kd.R_far (p:=⟨gb694,0,none⟩) (Kd.R_types HO674.out BK694.out (by decide)) (fun _ hk => hk.2) (.int .i64 t689)) (fun _ hk => hk.2) (.slice Ao51 t690.length co51)) (fun _ h_ => h_.1))) hb);have n2_:=am (Kd.R_below (by (with_reducible repeat (first|apply Kd.R_alloc|apply Kd.R_drewN|apply Kd.R_drew));exact (Kd.R_mono (Kd.R_far (p:=⟨gb694,1,none⟩) (Kd.R_far (p:=⟨gb694,0,none⟩) (Kd.R_types HO678.out BK694.out (by decide)) (fun _ hk => hk.2) (.int .i64 t689)) (fun _ hk => hk.2) (.slice Ao51 t690.length co51)) (fun _ h_ => h_.1))) hb);have n3_:=am (Kd.R_below (by (with_reducible repeat (first|apply Kd.R_alloc|apply Kd.R_drewN|apply Kd.R_drew));exact (Kd.R_mono (Kd.R_far (p:=⟨gb694,1,none⟩) (Kd.R_far (p:=⟨gb694,0,none⟩) (Kd.R_types HO683.out BK694.out (by decide)) (fun _ hk => hk.2) (.int .i64 t689)) (fun _ hk => hk.2) (.slice Ao51 t690.length co51)) (fun _ h_ => h_.1))) hb);have n4_:=am (Kd.R_below (by (with_reducible repeat (first|apply Kd.R_alloc|apply Kd.R_drewN|apply Kd.R_drew));exact (Kd.R_mono (Kd.R_far (p:=⟨gb694,1,none⟩) (Kd.R_far (p:=⟨gb694,0,none⟩) (Kd.R_types HO687.out BK694.out (by decide)) (fun _ hk => hk.2) (.int .i64 t689)) (fun _ hk => hk.2) (.slice Ao51 t690.length co51)) (fun _ h_ => h_.1))) hb);have n5_:=am (Kd.R_below (by (with_reducible repeat (first|apply Kd.R_alloc|apply Kd.R_drewN|apply Kd.R_drew));exact (Kd.R_mono (Kd.R_far (p:=⟨gb694,1,none⟩) (Kd.R_far (p:=⟨gb694,0,none⟩) (Kd.R_types HO692.out BK694.out (by decide)) (fun _ hk => hk.2) (.int .i64 t689)) (fun _ hk => hk.2) (.slice Ao51 t690.length co51)) (fun _ h_ => h_.1))) hb);have n6_:=am (blk_below (g:=gb665) (o:=.cells #[.int .i64 a1_0,.slice A1_1 l1_1.length c1_1] 25 (0,0)) (by (with_reducible repeat (first|refine blk_drewN ?_ _|refine blk_drew ?_|refine blk_alloc ?_ _));refine blk_far ?_ NB665_694.out _;(with_reducible repeat (first|refine blk_drewN ?_ _|refine blk_drew ?_|refine blk_alloc ?_ _));refine blk_far ?_ NB665_694.out _;(with_reducible repeat (first|refine blk_drewN ?_ _|refine blk_drew ?_|refine blk_alloc ?_ _));exact BK665.out) hb);have n7_:=am (blk_below (g:=gb680) (o:=.cells #[.int .i64 t675,.slice Ao33 t676.length co33] 30 (0,0)) (by (with_reducible repeat (first|refine blk_drewN ?_ _|refine blk_drew ?_|refine blk_alloc ?_ _));refine blk_far ?_ NB680_694.out _;(with_reducible repeat (first|refine blk_drewN ?_ _|refine blk_drew ?_|refine blk_alloc ?_ _));refine blk_far ?_ NB680_694.out _;(with_reducible repeat (first|refine blk_drewN ?_ _|refine blk_drew ?_|refine blk_alloc ?_ _));exact BK680.out) hb);have n8_:=am (blk_below (g:=gb688) (o:=.cells #[.int .i64 t684,.slice Ao43 t685.length co43] 30 (0,0)) (by (with_reducible repeat (first|refine blk_drewN ?_ _|refine blk_drew ?_|refine blk_alloc ?_ _));refine blk_far ?_ NB688_694.out _;(with_reducible repeat (first|refine blk_drewN ?_ _|refine blk_drew ?_|refine blk_alloc ?_ _));refine blk_far ?_ NB688_694.out _;(with_reducible repeat (first|refine blk_drewN ?_ _|refine blk_drew ?_|refine blk_alloc ?_ _));exact BK688.out) hb);have n9_:=am (blk_below (g:=gb694) (o:=.cells #[.int .i64 t689,.slice Ao51 t690.length co51] 30 (0,0)) (by (with_reducible repeat (first|refine blk_drewN ?_ _|refine blk_drew ?_|refine blk_alloc ?_ _));refine blk_put (cs:=#[.int .i64 t689,.slice none 0 0]) ?_ 1 _ rfl;(with_reducible repeat (first|refine blk_drewN ?_ _|refine blk_drew ?_|refine blk_alloc ?_ _));refine blk_put (cs:=#[.int .i64 0,.slice none 0 0]) ?_ 0 _ rfl;(with_reducible repeat (first|refine blk_drewN ?_ _|refine blk_drew ?_|refine blk_alloc ?_ _));exact BK694.out) hb);have n10_:=am (below_step (by repeat (first|(with_reducible first|exact HB.out|apply below_alloc|apply pw_below_drewN|apply below_drew1|refine below_set ?_ GE665.out|refine below_set ?_ GE680.out|refine below_set ?_ GE688.out|refine below_set ?_ GE694.out)|exact HB.out)) hb);clear HO670 HO674 HO678 HO683 HO687 HO692 BK665 BK680 BK688 BK694 HB;have HO670:=n0_;have HO674:=n1_;have HO678:=n2_;have HO683:=n3_;have HO687:=n4_;have HO692:=n5_;have BK665:=n6_;have BK680:=n7_;have BK688:=n8_;have BK694:=n9_;have HB:=n10_;clear n0_ n1_ n2_ n3_ n4_ n5_ n6_ n7_ n8_ n9_ n10_;(try clear hb);(try clear hb2);(try clear hk);(try clear hi)))
     go_meet
     case rel => exact ⟨_,((t693 != t679)),(by first|rfl|(simp;done)|(simp [*];done)),H',⟨by first|omega|exact Nat.le_refl _⟩,⟨kup (Kd.R_mono HO683.out (fun _ hk => trivial))⟩,⟨kup (Kd.R_mono HO678.out (fun _ hk => ⟨hk.1.2,hk.2⟩))⟩,⟨kup (Kd.R_mono HO687.out (fun _ hk => ⟨hk.1.2,hk.2⟩))⟩,⟨kup (Kd.R_mono HO692.out (fun _ hk => ⟨hk.1.2,hk.2⟩))⟩,⟨bup BK665.out⟩,⟨bup BK680.out⟩,⟨bup BK688.out⟩,⟨bup BK694.out⟩,⟨lup HB.out⟩⟩
    ·replace c53:=Bool.eq_false_iff.mpr c53
     subst c53
     have H1 : (laws_FnExactYoungSet.j0 k l0 a2 a3 a4 t679 t681 t693 true a1_0 l1_1 t675 t676 t684 t685 t689 t690) = some r:=by rw [if_neg (show ¬ (false = true) by decide)] at H;exact H
     clear H
     have H:=H1
     clear H1
     have H':=am H
     clear H
     have hnb62:=NB694_665.out
     have hnc62:=NB665_694.out
     have hnb63:=NB694_680.out
     have hnc63:=NB680_694.out
     have hnb64:=NB694_688.out
     have hnc64:=NB688_694.out
     have hcz65_0 : w46.cell? ⟨gb694,0,none⟩ = some (.int .i64 0):=(blk_cell BK694.out 0).trans rfl
     have hcz65_1 : w46.cell? ⟨gb694,1,none⟩ = some (.slice none 0 0):=(blk_cell BK694.out 1).trans rfl
     have hfz65_0:=blk_frozen BK694.out 0
     have hfz65_1:=blk_frozen BK694.out 1
     have hnb66:=NB680_665.out
     have hnc66:=NB665_680.out
     have hnb67:=NB680_688.out
     have hnc67:=NB688_680.out
     have hcz68_0 : w46.cell? ⟨gb680,0,none⟩ = some (.int .i64 t675):=(blk_cell BK680.out 0).trans rfl
     have hcz68_1 : w46.cell? ⟨gb680,1,none⟩ = some (.slice Ao33 t676.length co33):=(blk_cell BK680.out 1).trans rfl
     have hfz68_0:=blk_frozen BK680.out 0
     have hfz68_1:=blk_frozen BK680.out 1
     go_wp2_with (first|((with_reducible refine gate_callee (f:=23) rfl ?_);refine goesL_ (some 59) rfl rfl Tryd.func23 (by kernel_rfl) rfl #[.agg #[.int .i64 t689,.slice Ao51 t690.length co51],.agg #[.int .i64 t675,.slice Ao33 t676.length co33]] rfl (by (try simp only [List.map_toArray,List.map_cons,List.map_nil]);first|done|rfl|(simp only [List.length_drop,List.length_take];rfl)) ?_;(with_reducible refine (laws_eqNursery.calls k t689 _ _ t690 t675 _ _ t676 false _ ?side1 ?side2 ?side3 ?side4 A52.out).mono ?_);(case side1 => refine (Kd.R_reads' (e:=2) (base:=w.heap.size) (ok:=fun k_ => (((True∧some k_≠(v673 : Value).ownBlock)∧some k_≠(.slice Ao33 t676.length co33 : Value).ownBlock)∧some k_≠(.slice Ao43 t685.length co43 : Value).ownBlock)) (n:=t690.length) (c:=co51) ?_).2.2;exact (by (with_reducible repeat (first|apply Kd.R_alloc|apply Kd.R_drewN|apply Kd.R_drew));exact (Kd.R_mono (Kd.R_far (p:=⟨gb694,1,none⟩) (Kd.R_far (p:=⟨gb694,0,none⟩) (Kd.R_types HO692.out BK694.out (by decide)) (fun _ hk => hk.2) (.int .i64 t689)) (fun _ hk => hk.2) (.slice Ao51 t690.length co51)) (fun _ h_ => h_.1))));(case side2 => exact (Kd.R_reads' HO692.out).2.1);(case side3 => refine (Kd.R_reads' (e:=2) (base:=w.heap.size) (ok:=fun k_ => ((some k_≠(v673 : Value).ownBlock∧some k_≠(.slice Ao43 t685.length co43 : Value).ownBlock)∧some k_≠(.slice Ao51 t690.length co51 : Value).ownBlock)) (n:=t676.length) (c:=co33) ?_).2.2;exact (by (with_reducible repeat (first|apply Kd.R_alloc|apply Kd.R_drewN|apply Kd.R_drew));exact (Kd.R_mono (Kd.R_far (p:=⟨gb694,1,none⟩) (Kd.R_far (p:=⟨gb694,0,none⟩) (Kd.R_types HO678.out BK694.out (by decide)) (fun _ hk => hk.2) (.int .i64 t689)) (fun _ hk => hk.2) (.slice Ao51 t690.length co51)) (fun _ h_ => h_.1))));(case side4 => exact (Kd.R_reads' HO678.out).2.1);rintro e w69 ⟨rfl,hb⟩;refine ⟨_,rfl,?_⟩;have n0_:=am (Kd.R_below (by (with_reducible repeat (first|apply Kd.R_alloc|apply Kd.R_drewN|apply Kd.R_drew));exact (Kd.R_mono (Kd.R_far (p:=⟨gb694,1,none⟩) (Kd.R_far (p:=⟨gb694,0,none⟩) (Kd.R_types HO670.out BK694.out (by decide)) (fun _ hk => hk.2) (.int .i64 t689)) (fun _ hk => hk.2) (.slice Ao51 t690.length co51)) (fun _ h_ => h_.1))) hb);have n1_:=am (Kd.R_below (by (with_reducible repeat (first|apply Kd.R_alloc|apply Kd.R_drewN|apply Kd.R_drew));exact (Kd.R_mono (Kd.R_far (p:=⟨gb694,1,none⟩) (Kd.R_far (p:=⟨gb694,0,none⟩) (Kd.R_types HO674.out BK694.out (by decide)) (fun _ hk => hk.2) (.int .i64 t689)) (fun _ hk => hk.2) (.slice Ao51 t690.length co51)) (fun _ h_ => h_.1))) hb);have n2_:=am (Kd.R_below (by (with_reducible repeat (first|apply Kd.R_alloc|apply Kd.R_drewN|apply Kd.R_drew));exact (Kd.R_mono (Kd.R_far (p:=⟨gb694,1,none⟩) (Kd.R_far (p:=⟨gb694,0,none⟩) (Kd.R_types HO678.out BK694.out (by decide)) (fun _ hk => hk.2) (.int .i64 t689)) (fun _ hk => hk.2) (.slice Ao51 t690.length co51)) (fun _ h_ => h_.1))) hb);have n3_:=am (Kd.R_below (by (with_reducible repeat (first|apply Kd.R_alloc|apply Kd.R_drewN|apply Kd.R_drew));exact (Kd.R_mono (Kd.R_far (p:=⟨gb694,1,none⟩) (Kd.R_far (p:=⟨gb694,0,none⟩) (Kd.R_types HO683.out BK694.out (by decide)) (fun _ hk => hk.2) (.int .i64 t689)) (fun _ hk => hk.2) (.slice Ao51 t690.length co51)) (fun _ h_ => h_.1))) hb);have n4_:=am (Kd.R_below (by (with_reducible repeat (first|apply Kd.R_alloc|apply Kd.R_drewN|apply Kd.R_drew));exact (Kd.R_mono (Kd.R_far (p:=⟨gb694,1,none⟩) (Kd.R_far (p:=⟨gb694,0,none⟩) (Kd.R_types HO687.out BK694.out (by decide)) (fun _ hk => hk.2) (.int .i64 t689)) (fun _ hk => hk.2) (.slice Ao51 t690.length co51)) (fun _ h_ => h_.1))) hb);have n5_:=am (Kd.R_below (by (with_reducible repeat (first|apply Kd.R_alloc|apply Kd.R_drewN|apply Kd.R_drew));exact (Kd.R_mono (Kd.R_far (p:=⟨gb694,1,none⟩) (Kd.R_far (p:=⟨gb694,0,none⟩) (Kd.R_types HO692.out BK694.out (by decide)) (fun _ hk => hk.2) (.int .i64 t689)) (fun _ hk => hk.2) (.slice Ao51 t690.length co51)) (fun _ h_ => h_.1))) hb);have n6_:=am (blk_below (g:=gb665) (o:=.cells #[.int .i64 a1_0,.slice A1_1 l1_1.length c1_1] 25 (0,0)) (by (with_reducible repeat (first|refine blk_drewN ?_ _|refine blk_drew ?_|refine blk_alloc ?_ _));refine blk_far ?_ NB665_694.out _;(with_reducible repeat (first|refine blk_drewN ?_ _|refine blk_drew ?_|refine blk_alloc ?_ _));refine blk_far ?_ NB665_694.out _;(with_reducible repeat (first|refine blk_drewN ?_ _|refine blk_drew ?_|refine blk_alloc ?_ _));exact BK665.out) hb);have n7_:=am (blk_below (g:=gb680) (o:=.cells #[.int .i64 t675,.slice Ao33 t676.length co33] 30 (0,0)) (by (with_reducible repeat (first|refine blk_drewN ?_ _|refine blk_drew ?_|refine blk_alloc ?_ _));refine blk_far ?_ NB680_694.out _;(with_reducible repeat (first|refine blk_drewN ?_ _|refine blk_drew ?_|refine blk_alloc ?_ _));refine blk_far ?_ NB680_694.out _;(with_reducible repeat (first|refine blk_drewN ?_ _|refine blk_drew ?_|refine blk_alloc ?_ _));exact BK680.out) hb);have n8_:=am (blk_below (g:=gb688) (o:=.cells #[.int .i64 t684,.slice Ao43 t685.length co43] 30 (0,0)) (by (with_reducible repeat (first|refine blk_drewN ?_ _|refine blk_drew ?_|refine blk_alloc ?_ _));refine blk_far ?_ NB688_694.out _;(with_reducible repeat (first|refine blk_drewN ?_ _|refine blk_drew ?_|refine blk_alloc ?_ _));refine blk_far ?_ NB688_694.out _;(with_reducible repeat (first|refine blk_drewN ?_ _|refine blk_drew ?_|refine blk_alloc ?_ _));exact BK688.out) hb);have n9_:=am (blk_below (g:=gb694) (o:=.cells #[.int .i64 t689,.slice Ao51 t690.length co51] 30 (0,0)) (by (with_reducible repeat (first|refine blk_drewN ?_ _|refine blk_drew ?_|refine blk_alloc ?_ _));refine blk_put (cs:=#[.int .i64 t689,.slice none 0 0]) ?_ 1 _ rfl;(with_reducible repeat (first|refine blk_drewN ?_ _|refine blk_drew ?_|refine blk_alloc ?_ _));refine blk_put (cs:=#[.int .i64 0,.slice none 0 0]) ?_ 0 _ rfl;(with_reducible repeat (first|refine blk_drewN ?_ _|refine blk_drew ?_|refine blk_alloc ?_ _));exact BK694.out) hb);have n10_:=am (below_step (by repeat (first|(with_reducible first|exact HB.out|apply below_alloc|apply pw_below_drewN|apply below_drew1|refine below_set ?_ GE665.out|refine below_set ?_ GE680.out|refine below_set ?_ GE688.out|refine below_set ?_ GE694.out)|exact HB.out)) hb);clear HO670 HO674 HO678 HO683 HO687 HO692 BK665 BK680 BK688 BK694 HB;have HO670:=n0_;have HO674:=n1_;have HO678:=n2_;have HO683:=n3_;have HO687:=n4_;have HO692:=n5_;have BK665:=n6_;have BK680:=n7_;have BK688:=n8_;have BK694:=n9_;have HB:=n10_;clear n0_ n1_ n2_ n3_ n4_ n5_ n6_ n7_ n8_ n9_ n10_;(try clear hb);(try clear hb2);(try clear hk);(try clear hi)))
     go_meet
     case rel => exact ⟨_,(true),(by first|rfl|(simp;done)|(simp [*];done)),H',⟨by first|omega|exact Nat.le_refl _⟩,⟨kup (Kd.R_mono HO683.out (fun _ hk => trivial))⟩,⟨kup (Kd.R_mono HO678.out (fun _ hk => ⟨hk.1.2,hk.2⟩))⟩,⟨kup (Kd.R_mono HO687.out (fun _ hk => ⟨hk.1.2,hk.2⟩))⟩,⟨kup (Kd.R_mono HO692.out (fun _ hk => ⟨hk.1.2,hk.2⟩))⟩,⟨bup BK665.out⟩,⟨bup BK680.out⟩,⟨bup BK688.out⟩,⟨bup BK694.out⟩,⟨lup HB.out⟩⟩
   case rest =>
    clear HC20
    try clear c1
    try clear c2
    try clear p2
    try clear c3
    try clear c4
    try clear c5
    try clear c6
    try clear c19
    try clear c20
    try clear c23
    try clear c36
    try clear c40
    try clear c41
    try clear c42
    try clear c47
    try clear c48
    try clear c49
    try clear c53
    try clear c54
    try clear c55
    try clear c56
    try clear c58
    try clear c59
    try clear c62
    try clear c63
    try clear c64
    try clear c66
    try clear c67
    try clear hcz37_0
    try clear hcz37_1
    try clear hcz42_0
    try clear hcz42_1
    try clear hcz50_0
    try clear hcz50_1
    try clear hcz57_0
    try clear hcz57_1
    try clear hcz60_0
    try clear hcz60_1
    try clear hcz65_0
    try clear hcz65_1
    try clear hcz68_0
    try clear hcz68_1
    try clear hfz37_0
    try clear hfz37_1
    try clear hfz42_0
    try clear hfz42_1
    try clear hfz50_0
    try clear hfz50_1
    try clear hfz57_0
    try clear hfz57_1
    try clear hfz60_0
    try clear hfz60_1
    try clear hfz65_0
    try clear hfz65_1
    try clear hfz68_0
    try clear hfz68_1
    obtain ⟨kq,x65_19,rfl,HA,HJ19,HO_14,HO_681001,HO_689001,HO_695001,BK665,BK680,BK688,BK694,HB⟩:=hcut
    cases kq with
    | zero => exact absurd HA.out (by simp [laws_FnExactYoungSet.j0])
    | succ kj19 =>
     have H:=HA.out
     clear HA
     simp only [laws_FnExactYoungSet.j0] at H
     by_cases c70 : x65_19 = true
     ·subst c70
      have H1:=H;rw [if_pos rfl] at H1
      clear H
      have H:=H1
      clear H1
      obtain rfl:=Option.some.inj H
      go_wp2
      go_ret
      exact ⟨by first|rfl|(simp [errW_none,errW_some] <;> rfl)|(simp [*,errW_none,errW_some] <;> rfl),by repeat (first|(with_reducible first|exact HB.out|apply below_alloc|apply pw_below_drewN|apply below_drew1|refine below_set ?_ GE665.out|refine below_set ?_ GE680.out|refine below_set ?_ GE688.out|refine below_set ?_ GE694.out)|exact HB.out)⟩
     ·replace c70:=Bool.eq_false_iff.mpr c70
      subst c70
      have H1 : ((laws_toStringS.f kj19 l0).bind fun t696 => ((laws_eqStringS.f kj19 t681 t696).bind fun t699 => (if t699 = true then ((laws_toNursery.f kj19 a1_0 l1_1).bind fun bt700 => ((laws_eqNursery.f kj19 t684 t685 bt700.1 bt700.2).bind fun t704 => (if t704 = true then ((laws_markStringS.f kj19 t681 1).bind fun bt705 => ((laws_markNursery.f kj19 t684 t685 bt705.1).bind fun bt707 => (if bt707.1 < 0 then (laws_FnExactYoungSet.j1 kj19 l0 a2 a3 a4 t679 true a1_0 l1_1 t675 t676 t689 t690) else ((laws_eqNursery.f kj19 t689 t690 t675 t676).bind fun t709 => (if t709 = true then (laws_FnExactYoungSet.j1 kj19 l0 a2 a3 a4 t679 (t693 != t679) a1_0 l1_1 t675 t676 t689 t690) else (laws_FnExactYoungSet.j1 kj19 l0 a2 a3 a4 t679 true a1_0 l1_1 t675 t676 t689 t690)))))) else (some false)))) else (some false)))) = some r:=by rw [if_neg (show ¬ (false = true) by decide)] at H;exact H
      clear H
      have H:=H1
      clear H1
      replace H:=Option.bind_eq_some_iff.mp H
      obtain ⟨t696,A710,H⟩:=H
      try dsimp only at H
      have A71:=am A710
      clear A710
      replace H:=Option.bind_eq_some_iff.mp H
      obtain ⟨t699,A720,H⟩:=H
      try dsimp only at H
      have A72:=am A720
      clear A720
      by_cases c73 : t699 = true
      ·subst c73
       have H1:=H;rw [if_pos rfl] at H1
       clear H
       have H:=H1
       clear H1
       replace H:=Option.bind_eq_some_iff.mp H
       obtain ⟨⟨t700,t701⟩,A740,H⟩:=H
       try dsimp only at H
       have A74:=am A740
       clear A740
       replace H:=Option.bind_eq_some_iff.mp H
       obtain ⟨t704,A750,H⟩:=H
       try dsimp only at H
       have A75:=am A750
       clear A750
       by_cases c76 : t704 = true
       ·subst c76
        have H1:=H;rw [if_pos rfl] at H1
        clear H
        have H:=H1
        clear H1
        replace H:=Option.bind_eq_some_iff.mp H
        obtain ⟨⟨t705,t706⟩,A770,H⟩:=H
        try dsimp only at H
        have A77:=am A770
        clear A770
        replace H:=Option.bind_eq_some_iff.mp H
        obtain ⟨⟨t707,t708⟩,A780,H⟩:=H
        try dsimp only at H
        have A78:=am A780
        clear A780
        have HC79:=am H
        clear H
        try go_wp2_with (first|((with_reducible refine gate_callee (f:=19) rfl ?_);refine goesL_ (some 68) rfl rfl Tryd.func19 (by kernel_rfl) rfl #[.slice A0 l0.length c0] rfl (by (try simp only [List.map_toArray,List.map_cons,List.map_nil]);first|done|rfl|(simp only [List.length_drop,List.length_take];rfl)) ?_;(with_reducible refine (laws_toStringS.calls kj19 _ _ l0 t696 _ ?side1 ?side2 A71.out).mono ?_);(case side1 => repeat (first|exact (Kd.C_below HR0.out HB.out)|(with_reducible first|refine Kd.C_alloc ?_ _|refine Kd.C_drewN ?_ _|refine Kd.C_drew ?_)));(case side2 => exact HC0.out);rintro e w80 ⟨v697,rfl,ho0,hb⟩;refine ⟨_,rfl,?_⟩;have n0_:=am (Kd.R_elder' (kup HO_14.out) (Kd.R_base ho0) hb);have n1_:=am (Kd.R_below (kup HO_681001.out) hb);have n2_:=am (Kd.R_below (kup HO_689001.out) hb);have n3_:=am (Kd.R_below (kup HO_695001.out) hb);have n4_:=am (Kd.R_lower (Kd.R_new' ho0 (Kd.R_lt (kup HO_14.out))) (below_size (lup HB.out)));have n5_:=am (blk_below (bup BK665.out) hb);have n6_:=am (blk_below (bup BK680.out) hb);have n7_:=am (blk_below (bup BK688.out) hb);have n8_:=am (blk_below (bup BK694.out) hb);have n9_:=am (below_step (lup HB.out) hb);clear HO_14 HO_681001 HO_689001 HO_695001 BK665 BK680 BK688 BK694 HB;have HO_14:=n0_;have HO_681001:=n1_;have HO_689001:=n2_;have HO_695001:=n3_;have HO698:=n4_;have BK665:=n5_;have BK680:=n6_;have BK688:=n7_;have BK694:=n8_;have HB:=n9_;clear n0_ n1_ n2_ n3_ n4_ n5_ n6_ n7_ n8_ n9_;(try clear hb);(try clear hb2);(try clear hk);(try clear hi);(try clear ho0);obtain ⟨Ao81,co81,eo81⟩:=Kd.R_slice HO698.out;subst eo81)|((with_reducible refine gate_callee (f:=22) rfl ?_);refine goesL_ (some 69) rfl rfl Tryd.func22 (by kernel_rfl) rfl #[.slice Ao44 t681.length co44,.slice Ao81 t696.length co81] rfl (by (try simp only [List.map_toArray,List.map_cons,List.map_nil]);first|done|rfl|(simp only [List.length_drop,List.length_take];rfl)) ?_;(with_reducible refine (laws_eqStringS.calls kj19 _ _ t681 _ _ t696 true _ ?side1 ?side2 ?side3 ?side4 A72.out).mono ?_);(case side1 => repeat (first|exact (Kd.R_reads' HO_14.out).2.2|(with_reducible first|refine Kd.C_alloc ?_ _|refine Kd.C_drewN ?_ _|refine Kd.C_drew ?_)));(case side2 => exact (Kd.R_reads' HO_14.out).2.1);(case side3 => repeat (first|exact (Kd.R_reads' HO698.out).2.2|(with_reducible first|refine Kd.C_alloc ?_ _|refine Kd.C_drewN ?_ _|refine Kd.C_drew ?_)));(case side4 => exact (Kd.R_reads' HO698.out).2.1);rintro e w' ⟨rfl,⟨nd,rfl⟩⟩;refine ⟨_,rfl,?_⟩))
        (try (rw [drewN_self w80];generalize hq_ : World.drewN w80 _ = w80;have n0_ : Aside0 (Kd.R Kd.string 9 w80 w.heap.size (fun k_ => some k_≠(.slice Ao44 t681.length co44 : Value).ownBlock) (.slice Ao81 t696.length co81) t696):=⟨by rw [← hq_];exact (kup (Kd.R_mono HO698.out (fun _ hk => hk.2)))⟩;have n1_ : Aside0 (Kd.R Kd.string 9 w80 w.heap.size (fun k_ => some k_≠(.slice Ao81 t696.length co81 : Value).ownBlock) (.slice Ao44 t681.length co44) t681):=⟨by rw [← hq_];exact (kup (Kd.R_mono HO_14.out (fun _ hk => hk.2)))⟩;have n2_ : Aside0 (Kd.R (Kd.int .i64) 2 w80 w.heap.size (fun k_ => some k_≠(.slice Ao43 t685.length co43 : Value).ownBlock∧some k_≠(.slice Ao51 t690.length co51 : Value).ownBlock) (.slice Ao33 t676.length co33) t676):=⟨by rw [← hq_];exact (kup HO_681001.out)⟩;have n3_ : Aside0 (Kd.R (Kd.int .i64) 2 w80 w.heap.size (fun k_ => some k_≠(.slice Ao33 t676.length co33 : Value).ownBlock∧some k_≠(.slice Ao51 t690.length co51 : Value).ownBlock) (.slice Ao43 t685.length co43) t685):=⟨by rw [← hq_];exact (kup HO_689001.out)⟩;have n4_ : Aside0 (Kd.R (Kd.int .i64) 2 w80 w.heap.size (fun k_ => some k_≠(.slice Ao33 t676.length co33 : Value).ownBlock∧some k_≠(.slice Ao43 t685.length co43 : Value).ownBlock) (.slice Ao51 t690.length co51) t690):=⟨by rw [← hq_];exact (kup HO_695001.out)⟩;have n5_ : Aside0 (w80.heap[gb665]? = some (.cells #[.int .i64 a1_0,.slice A1_1 l1_1.length c1_1] 25 (0,0))):=⟨by rw [← hq_];exact (bup BK665.out)⟩;have n6_ : Aside0 (w80.heap[gb680]? = some (.cells #[.int .i64 t675,.slice Ao33 t676.length co33] 30 (0,0))):=⟨by rw [← hq_];exact (bup BK680.out)⟩;have n7_ : Aside0 (w80.heap[gb688]? = some (.cells #[.int .i64 t684,.slice Ao43 t685.length co43] 30 (0,0))):=⟨by rw [← hq_];exact (bup BK688.out)⟩;have n8_ : Aside0 (w80.heap[gb694]? = some (.cells #[.int .i64 t689,.slice Ao51 t690.length co51] 30 (0,0))):=⟨by rw [← hq_];exact (bup BK694.out)⟩;have n9_ : Aside0 (Below w.heap.size w w80):=⟨by rw [← hq_];exact (lup HB.out)⟩;clear HO698 HO_14 HO_681001 HO_689001 HO_695001 BK665 BK680 BK688 BK694 HB hq_;have HO698:=n0_;have HO_14:=n1_;have HO_681001:=n2_;have HO_689001:=n3_;have HO_695001:=n4_;have BK665:=n5_;have BK680:=n6_;have BK688:=n7_;have BK694:=n8_;have HB:=n9_;clear n0_ n1_ n2_ n3_ n4_ n5_ n6_ n7_ n8_ n9_))
        have n0_:=am (Kd.R_drew HO_14.out)
        have n1_:=am (Kd.R_drew HO_681001.out)
        have n2_:=am (Kd.R_drew HO_689001.out)
        have n3_:=am (Kd.R_drew HO_695001.out)
        have n4_:=am (Kd.R_drew HO698.out)
        have n5_:=am (blk_drew BK665.out)
        have n6_:=am (blk_drew BK680.out)
        have n7_:=am (blk_drew BK688.out)
        have n8_:=am (blk_drew BK694.out)
        have n9_:=am (below_drew1 HB.out)
        clear HO_14
        clear HO_681001
        clear HO_689001
        clear HO_695001
        clear HO698
        clear BK665
        clear BK680
        clear BK688
        clear BK694
        clear HB
        have HO_14:=n0_
        have HO_681001:=n1_
        have HO_689001:=n2_
        have HO_695001:=n3_
        have HO698:=n4_
        have BK665:=n5_
        have BK680:=n6_
        have BK688:=n7_
        have BK694:=n8_
        have HB:=n9_
        clear n0_ n1_ n2_ n3_ n4_ n5_ n6_ n7_ n8_ n9_
        refine start_ (n:=5) (S:=fun w' => w'.cell? ⟨gb688,0,none⟩ = some (.int .i64 t684)∧w'.cell? ⟨gb688,1,none⟩ = some (.slice Ao43 t685.length co43)∧w'.cell? ⟨gb665,0,none⟩ = some (.int .i64 a1_0)∧w'.cell? ⟨gb665,1,none⟩ = some (.slice A1_1 l1_1.length c1_1)) (ds:=[]) #[false,false,false,false,false] (by kernel_rfl) rfl rfl ⟨(blk_cell BK688.out 0).trans rfl,(blk_cell BK688.out 1).trans rfl,(blk_cell BK665.out 0).trans rfl,(blk_cell BK665.out 1).trans rfl⟩ (fun hHeld => ?_)
        generalize w80.drew = w82 at HO_14 HO_681001 HO_689001 HO_695001 HO698 BK665 BK680 BK688 BK694 HB hHeld ⊢
        refine take_ (i:=0) (N:=some 71) (v:=?_) (a':=?_) #[true,false,false,false,false] rfl rfl (by kernel_rfl) (fun _ _ _ h => h) (Or.inl ⟨by rfl,?_⟩) hHeld ?_ ?_
        rotate_left
        ·rintro w' ⟨s0,s1,s2,s3⟩
         go_simp
         with_reducible rfl
        rotate_left
        ·simp only [Act.put,List.setIfInBounds_toArray,List.set_cons_zero,List.set_cons_succ,i64_w,i32_w]
         rfl
        refine take_ (i:=1) (N:=some 72) (v:=?_) (a':=?_) #[true,true,false,false,false] rfl rfl (by kernel_rfl) (fun _ _ _ h => h) (Or.inl ⟨by rfl,?_⟩) hHeld ?_ ?_
        rotate_left
        ·rintro w' ⟨s0,s1,s2,s3⟩
         go_simp
         with_reducible rfl
        rotate_left
        ·simp only [Act.put,List.setIfInBounds_toArray,List.set_cons_zero,List.set_cons_succ,i64_w,i32_w]
         rfl
        refine one_ (i:=2) (N:=some 73) #[true,true,true,false,false] rfl rfl (by kernel_rfl) (by decide) (fun K hK => ?_)
        refine goes_ Tryd.func20 (by kernel_rfl) rfl #[.agg #[.int .i64 a1_0,.slice A1_1 l1_1.length c1_1]] (by rfl) rfl rfl (by (try simp only [List.map_toArray,List.map_cons,List.map_nil]);first|done|rfl|(simp only [List.length_drop,List.length_take];rfl)) ?_
        with_reducible refine (laws_toNursery.calls kj19 a1_0 _ _ l1_1 t700 t701 _ ?side1 ?side2 A74.out).mono ?_
        (case side1 => repeat (first|exact (Kd.C_below HR1_1.out HB.out)|(with_reducible first|refine Kd.C_alloc ?_ _|refine Kd.C_drewN ?_ _|refine Kd.C_drew ?_)))
        (case side2 => exact HC1_1.out)
        rintro e w83 ⟨v702,rfl,ho0,hb⟩
        refine ⟨_,rfl,?_⟩
        have n0_:=am (Kd.R_below (kup HO_14.out) hb)
        have n1_:=am (Kd.R_elder' (kup HO_681001.out) (Kd.R_base ho0) hb)
        have n2_:=am (Kd.R_elder' (kup HO_689001.out) (Kd.R_base ho0) hb)
        have n3_:=am (Kd.R_elder' (kup HO_695001.out) (Kd.R_base ho0) hb)
        have n4_:=am (Kd.R_below (kup HO698.out) hb)
        have n5_:=am (Kd.R_lower (Kd.R_new' (Kd.R_new' (Kd.R_new' ho0 (Kd.R_lt (kup HO_681001.out))) (Kd.R_lt (kup HO_689001.out))) (Kd.R_lt (kup HO_695001.out))) (below_size (lup HB.out)))
        have n6_:=am (blk_below (bup BK665.out) hb)
        have n7_:=am (blk_below (bup BK680.out) hb)
        have n8_:=am (blk_below (bup BK688.out) hb)
        have n9_:=am (blk_below (bup BK694.out) hb)
        have n10_:=am (below_step (lup HB.out) hb)
        clear HO_14
        clear HO_681001
        clear HO_689001
        clear HO_695001
        clear HO698
        clear BK665
        clear BK680
        clear BK688
        clear BK694
        clear HB
        have HO_14:=n0_
        have HO_681001:=n1_
        have HO_689001:=n2_
        have HO_695001:=n3_
        have HO698:=n4_
        have HO703:=n5_
        have BK665:=n6_
        have BK680:=n7_
        have BK688:=n8_
        have BK694:=n9_
        have HB:=n10_
        clear n0_ n1_ n2_ n3_ n4_ n5_ n6_ n7_ n8_ n9_ n10_
        (try clear hb)
        (try clear hb2)
        (try clear hk)
        (try clear hi)
        (try clear ho0)
        obtain ⟨Ao84,co84,eo84⟩:=Kd.R_slice HO703.out
        (first|subst eo84|(injection eo84 with f1_ f2_ f3_;have f4_:=f1_.symm;have f5_:=f3_.symm;clear f1_ f2_ f3_;subst f4_;subst f5_))
        refine hK.out _ _ ⟨(blk_cell BK688.out 0).trans rfl,(blk_cell BK688.out 1).trans rfl,(blk_cell BK665.out 0).trans rfl,(blk_cell BK665.out 1).trans rfl⟩ (fun hHeld => ?_)
        clear hK K
        refine norm_ (a':=?_) ?_ ?_
        rotate_left
        ·show Act.put _ (some 73) _ = _
         simp only [Act.put,List.setIfInBounds_toArray,List.set_cons_zero,List.set_cons_succ,i64_w,i32_w]
         rfl
        refine one_ (i:=3) (N:=some 74) #[true,true,true,true,false] rfl rfl (by kernel_rfl) (by decide) (fun K hK => ?_)
        refine goes_ Tryd.func23 (by kernel_rfl) rfl #[.agg #[.int .i64 t684,.slice Ao43 t685.length co43],.agg #[.int .i64 t700,.slice Ao84 t701.length co84]] (by rfl) rfl rfl (by (try simp only [List.map_toArray,List.map_cons,List.map_nil]);first|done|rfl|(simp only [List.length_drop,List.length_take];rfl)) ?_
        with_reducible refine (laws_eqNursery.calls kj19 t684 _ _ t685 t700 _ _ t701 true _ ?side1 ?side2 ?side3 ?side4 A75.out).mono ?_
        (case side1 => repeat (first|exact (Kd.R_reads' HO_689001.out).2.2|(with_reducible first|refine Kd.C_alloc ?_ _|refine Kd.C_drewN ?_ _|refine Kd.C_drew ?_)))
        (case side2 => exact (Kd.R_reads' HO_689001.out).2.1)
        (case side3 => repeat (first|exact (Kd.R_reads' HO703.out).2.2|(with_reducible first|refine Kd.C_alloc ?_ _|refine Kd.C_drewN ?_ _|refine Kd.C_drew ?_)))
        (case side4 => exact (Kd.R_reads' HO703.out).2.1)
        rintro e w85 ⟨rfl,hb⟩
        refine ⟨_,rfl,?_⟩
        have n0_:=am (Kd.R_below (kup HO_14.out) hb)
        have n1_:=am (Kd.R_below (kup HO_681001.out) hb)
        have n2_:=am (Kd.R_below (kup HO_689001.out) hb)
        have n3_:=am (Kd.R_below (kup HO_695001.out) hb)
        have n4_:=am (Kd.R_below (kup HO698.out) hb)
        have n5_:=am (Kd.R_below (kup HO703.out) hb)
        have n6_:=am (blk_below (bup BK665.out) hb)
        have n7_:=am (blk_below (bup BK680.out) hb)
        have n8_:=am (blk_below (bup BK688.out) hb)
        have n9_:=am (blk_below (bup BK694.out) hb)
        have n10_:=am (below_step (lup HB.out) hb)
        clear HO_14
        clear HO_681001
        clear HO_689001
        clear HO_695001
        clear HO698
        clear HO703
        clear BK665
        clear BK680
        clear BK688
        clear BK694
        clear HB
        have HO_14:=n0_
        have HO_681001:=n1_
        have HO_689001:=n2_
        have HO_695001:=n3_
        have HO698:=n4_
        have HO703:=n5_
        have BK665:=n6_
        have BK680:=n7_
        have BK688:=n8_
        have BK694:=n9_
        have HB:=n10_
        clear n0_ n1_ n2_ n3_ n4_ n5_ n6_ n7_ n8_ n9_ n10_
        (try clear hb)
        (try clear hb2)
        (try clear hk)
        (try clear hi)
        refine hK.out _ _ ⟨(blk_cell BK688.out 0).trans rfl,(blk_cell BK688.out 1).trans rfl,(blk_cell BK665.out 0).trans rfl,(blk_cell BK665.out 1).trans rfl⟩ (fun hHeld => ?_)
        clear hK K
        refine norm_ (a':=?_) ?_ ?_
        rotate_left
        ·show Act.put _ (some 74) _ = _
         simp only [Act.put,List.setIfInBounds_toArray,List.set_cons_zero,List.set_cons_succ,i64_w,i32_w]
         rfl
        refine pure_ (i:=4) (N:=some 75) (v:=?_) (a':=?_) #[true,true,true,true,true] rfl rfl (by kernel_rfl) (fun _ _ _ h => h) (Or.inl ⟨by rfl,?_⟩) ?_ ?_
        rotate_left
        ·intro w'
         go_simp
         with_reducible rfl
        rotate_left
        ·simp only [Act.put,List.setIfInBounds_toArray,List.set_cons_zero,List.set_cons_succ,i64_w,i32_w]
         rfl
        refine done_ (by kernel_rfl) ?_
        go_upto_region 21 with (first|((with_reducible refine gate_callee (f:=27) rfl ?_);refine goesL_ (some 78) rfl rfl Tryd.func27 (by kernel_rfl) rfl #[.slice Ao44 t681.length co44,.int .i64 1] rfl (by (try simp only [List.map_toArray,List.map_cons,List.map_nil]);first|done|rfl|(simp only [List.length_drop,List.length_take];rfl)) ?_;(with_reducible refine (laws_markStringS.calls kj19 (fun k_ => some k_ = (.slice Ao44 t681.length co44 : Value).ownBlock) (.slice Ao44 t681.length co44) t681 1 t705 t706 w _ ?side1 ?side2 A77.out).mono ?_);(case side1 => repeat (first|(with_reducible first|exact HB.out|apply below_alloc|apply pw_below_drewN|apply below_drew1|refine below_set ?_ GE665.out|refine below_set ?_ GE680.out|refine below_set ?_ GE688.out|refine below_set ?_ GE694.out)|exact HB.out));(case side2 => exact Kd.R_tight rfl HO_14.out);rintro e w86 ⟨rfl,hy0,hb,hkp⟩;refine ⟨_,rfl,?_⟩;have n0_:=am (Kd.R_reok rfl hy0 (fun k_ e_ => HO_14.out.1 k_ e_));have n1_:=am (Kd.R_mono (ok':=fun k_ => some k_≠(.slice Ao43 t685.length co43 : Value).ownBlock∧some k_≠(.slice Ao51 t690.length co51 : Value).ownBlock∧some k_≠(.slice Ao84 t701.length co84 : Value).ownBlock) (Kd.R_keptB ((Kd.R_apart' HO_681001.out (Kd.R_typed HO_14.out) (by decide))) hkp (fun k_ hk_ hs_ => by first|exact hk_.2 hs_|exact hk_ hs_)) (fun k_ hk_ => by first|exact ⟨hk_.1.1.1.1,hk_.1.1.1.2,hk_.1.1.2⟩|(simp only [and_assoc] at hk_;exact ⟨hk_.1,hk_.2.1,hk_.2.2.1⟩)));have n2_:=am (Kd.R_mono (ok':=fun k_ => some k_≠(.slice Ao33 t676.length co33 : Value).ownBlock∧some k_≠(.slice Ao51 t690.length co51 : Value).ownBlock∧some k_≠(.slice Ao84 t701.length co84 : Value).ownBlock) (Kd.R_keptB ((Kd.R_apart' HO_689001.out (Kd.R_typed HO_14.out) (by decide))) hkp (fun k_ hk_ hs_ => by first|exact hk_.2 hs_|exact hk_ hs_)) (fun k_ hk_ => by first|exact ⟨hk_.1.1.1.1,hk_.1.1.1.2,hk_.1.1.2⟩|(simp only [and_assoc] at hk_;exact ⟨hk_.1,hk_.2.1,hk_.2.2.1⟩)));have n3_:=am (Kd.R_mono (ok':=fun k_ => some k_≠(.slice Ao33 t676.length co33 : Value).ownBlock∧some k_≠(.slice Ao43 t685.length co43 : Value).ownBlock∧some k_≠(.slice Ao84 t701.length co84 : Value).ownBlock) (Kd.R_keptB ((Kd.R_apart' HO_695001.out (Kd.R_typed HO_14.out) (by decide))) hkp (fun k_ hk_ hs_ => by first|exact hk_.2 hs_|exact hk_ hs_)) (fun k_ hk_ => by first|exact ⟨hk_.1.1.1.1,hk_.1.1.1.2,hk_.1.1.2⟩|(simp only [and_assoc] at hk_;exact ⟨hk_.1,hk_.2.1,hk_.2.2.1⟩)));have n4_:=am (blk_kept (bup BK665.out) hkp (fun hs_ => (fun e_ => (Kd.R_ne HO_14.out BK665.out (by decide)) e_) hs_));have n5_:=am (blk_kept (bup BK680.out) hkp (fun hs_ => (fun e_ => (Kd.R_ne HO_14.out BK680.out (by decide)) e_) hs_));have n6_:=am (blk_kept (bup BK688.out) hkp (fun hs_ => (fun e_ => (Kd.R_ne HO_14.out BK688.out (by decide)) e_) hs_));have n7_:=am (blk_kept (bup BK694.out) hkp (fun hs_ => (fun e_ => (Kd.R_ne HO_14.out BK694.out (by decide)) e_) hs_));have n8_:=am (Kd.R_mono (ok':=fun k_ => some k_≠(.slice Ao44 t681.length co44 : Value).ownBlock) (Kd.R_keptB (HO698.out) hkp (fun k_ hk_ hs_ => by first|exact hk_.2 hs_|exact hk_ hs_)) (fun k_ hk_ => by first|exact hk_.1.2|exact hk_.1|exact hk_.1.1));have n9_:=am (Kd.R_mono (ok':=fun k_ => some k_≠(.slice Ao33 t676.length co33 : Value).ownBlock∧some k_≠(.slice Ao43 t685.length co43 : Value).ownBlock∧some k_≠(.slice Ao51 t690.length co51 : Value).ownBlock) (Kd.R_keptB ((Kd.R_apart' HO703.out (Kd.R_typed HO_14.out) (by decide))) hkp (fun k_ hk_ hs_ => by first|exact hk_.2 hs_|exact hk_ hs_)) (fun k_ hk_ => by first|exact ⟨hk_.1.1.1.1.2,hk_.1.1.1.2,hk_.1.1.2⟩|(simp only [and_assoc] at hk_;exact ⟨hk_.1,hk_.2.1,hk_.2.2.1⟩)));have n10_:=am (hb);clear HO_14 HO_681001 HO_689001 HO_695001 BK665 BK680 BK688 BK694 HO698 HO703 HB;have HO_14:=n0_;have HO_681001:=n1_;have HO_689001:=n2_;have HO_695001:=n3_;have BK665:=n4_;have BK680:=n5_;have BK688:=n6_;have BK694:=n7_;have HO698:=n8_;have HO703:=n9_;have HB:=n10_;clear n0_ n1_ n2_ n3_ n4_ n5_ n6_ n7_ n8_ n9_ n10_;(try clear hb);(try clear hkp);(try clear hy0);have hnb87:=NB688_665.out;have hnc87:=NB665_688.out;have hnb88:=NB688_680.out;have hnc88:=NB680_688.out;have hnb89:=NB688_694.out;have hnc89:=NB694_688.out;have hcz90_0 : w86.cell? ⟨gb688,0,none⟩ = some (.int .i64 t684):=(blk_cell BK688.out 0).trans rfl;have hcz90_1 : w86.cell? ⟨gb688,1,none⟩ = some (.slice Ao43 t685.length co43):=(blk_cell BK688.out 1).trans rfl;have hfz90_0:=blk_frozen BK688.out 0;have hfz90_1:=blk_frozen BK688.out 1)|((with_reducible refine gate_callee (f:=28) rfl ?_);refine goesL_ (some 81) rfl rfl Tryd.func28 (by kernel_rfl) rfl #[.agg #[.int .i64 t684,.slice Ao43 t685.length co43],.int .i64 t705] rfl (by (try simp only [List.map_toArray,List.map_cons,List.map_nil]);first|done|rfl|(simp only [List.length_drop,List.length_take];rfl)) ?_;(with_reducible refine (laws_markNursery.calls kj19 t684 (fun k_ => some k_ = (.slice Ao43 t685.length co43 : Value).ownBlock) (.slice Ao43 t685.length co43) t685 t705 t707 t708 w _ ?side1 ?side2 A78.out).mono ?_);(case side1 => repeat (first|(with_reducible first|exact HB.out|apply below_alloc|apply pw_below_drewN|apply below_drew1|refine below_set ?_ GE665.out|refine below_set ?_ GE680.out|refine below_set ?_ GE688.out|refine below_set ?_ GE694.out)|exact HB.out));(case side2 => exact Kd.R_tight rfl HO_689001.out);rintro e w91 ⟨rfl,hy0,hb,hkp⟩;refine ⟨_,rfl,?_⟩;have n0_:=am (Kd.R_mono (ok':=fun k_ => some k_≠(.slice Ao81 t696.length co81 : Value).ownBlock) (Kd.R_keptB ((Kd.R_apart' HO_14.out (Kd.R_typed HO_689001.out) (by decide))) hkp (fun k_ hk_ hs_ => by first|exact hk_.2 hs_|exact hk_ hs_)) (fun k_ hk_ => by first|exact hk_.1.1.2|exact hk_.1|exact hk_.1.1));have n1_:=am (Kd.R_mono (ok':=fun k_ => some k_≠(.slice Ao43 t685.length co43 : Value).ownBlock∧some k_≠(.slice Ao51 t690.length co51 : Value).ownBlock∧some k_≠(.slice Ao84 t701.length co84 : Value).ownBlock) (Kd.R_keptB (HO_681001.out) hkp (fun k_ hk_ hs_ => by first|exact hk_.1 hs_|exact hk_.1 hs_|exact hk_.2.1 hs_|exact hk_.2 hs_|exact hk_.2.2.1 hs_|exact hk_.2.2 hs_|exact hk_.2.2.2 hs_|exact hk_ hs_)) (fun k_ hk_ => by first|exact ⟨hk_.1.1,hk_.1.2.1,hk_.1.2.2⟩|(simp only [and_assoc] at hk_;exact ⟨hk_.1,hk_.2.1,hk_.2.2.1⟩)));have n2_:=am (Kd.R_reok rfl hy0 (fun k_ e_ => HO_689001.out.1 k_ e_));have n3_:=am (Kd.R_mono (ok':=fun k_ => some k_≠(.slice Ao33 t676.length co33 : Value).ownBlock∧some k_≠(.slice Ao43 t685.length co43 : Value).ownBlock∧some k_≠(.slice Ao84 t701.length co84 : Value).ownBlock) (Kd.R_keptB (HO_695001.out) hkp (fun k_ hk_ hs_ => by first|exact hk_.2.1 hs_|exact hk_.1 hs_|exact hk_.2.1 hs_|exact hk_.2 hs_|exact hk_.2.2.1 hs_|exact hk_.2.2 hs_|exact hk_.2.2.2 hs_|exact hk_ hs_)) (fun k_ hk_ => by first|exact ⟨hk_.1.1,hk_.1.2.1,hk_.1.2.2⟩|(simp only [and_assoc] at hk_;exact ⟨hk_.1,hk_.2.1,hk_.2.2.1⟩)));have n4_:=am (blk_kept (bup BK665.out) hkp (fun hs_ => (fun e_ => (Kd.R_ne HO_689001.out BK665.out (by decide)) e_) hs_));have n5_:=am (blk_kept (bup BK680.out) hkp (fun hs_ => (fun e_ => (Kd.R_ne HO_689001.out BK680.out (by decide)) e_) hs_));have n6_:=am (blk_kept (bup BK688.out) hkp (fun hs_ => (fun e_ => (Kd.R_ne HO_689001.out BK688.out (by decide)) e_) hs_));have n7_:=am (blk_kept (bup BK694.out) hkp (fun hs_ => (fun e_ => (Kd.R_ne HO_689001.out BK694.out (by decide)) e_) hs_));have n8_:=am (Kd.R_mono (ok':=fun k_ => some k_≠(.slice Ao44 t681.length co44 : Value).ownBlock) (Kd.R_keptB ((Kd.R_apart' HO698.out (Kd.R_typed HO_689001.out) (by decide))) hkp (fun k_ hk_ hs_ => by first|exact hk_.2 hs_|exact hk_ hs_)) (fun k_ hk_ => by first|exact hk_.1.1|exact hk_.1|exact hk_.1.1));have n9_:=am (Kd.R_mono (ok':=fun k_ => some k_≠(.slice Ao33 t676.length co33 : Value).ownBlock∧some k_≠(.slice Ao43 t685.length co43 : Value).ownBlock∧some k_≠(.slice Ao51 t690.length co51 : Value).ownBlock) (Kd.R_keptB (HO703.out) hkp (fun k_ hk_ hs_ => by first|exact hk_.2.1 hs_|exact hk_.1 hs_|exact hk_.2.1 hs_|exact hk_.2 hs_|exact hk_.2.2.1 hs_|exact hk_.2.2 hs_|exact hk_.2.2.2 hs_|exact hk_ hs_)) (fun k_ hk_ => by first|exact ⟨hk_.1.1,hk_.1.2.1,hk_.1.2.2⟩|(simp only [and_assoc] at hk_;exact ⟨hk_.1,hk_.2.1,hk_.2.2.1⟩)));have n10_:=am (hb);clear HO_14 HO_681001 HO_689001 HO_695001 BK665 BK680 BK688 BK694 HO698 HO703 HB;have HO_14:=n0_;have HO_681001:=n1_;have HO_689001:=n2_;have HO_695001:=n3_;have BK665:=n4_;have BK680:=n5_;have BK688:=n6_;have BK694:=n7_;have HO698:=n8_;have HO703:=n9_;have HB:=n10_;clear n0_ n1_ n2_ n3_ n4_ n5_ n6_ n7_ n8_ n9_ n10_;(try clear hb);(try clear hkp);(try clear hy0)))
        (try simp only [Act.put,List.setIfInBounds_toArray,List.set_cons_zero,List.set_cons_succ])
        go_cut [94] (fun v94 wc => ∃ (kq : Nat) (x94_78 : Bool),v94 = .bool x94_78∧Aside0 (laws_FnExactYoungSet.j1 kq l0 a2 a3 a4 t679 x94_78 a1_0 l1_1 t675 t676 t689 t690 = some r)∧Aside0 (kq ≤ kj19)∧Aside0 (Kd.R (Kd.int .i64) 2 wc w.heap.size (fun k_ => some k_≠((.slice Ao43 t685.length co43) : Value).ownBlock∧some k_≠((.slice Ao51 t690.length co51) : Value).ownBlock) (.slice Ao33 t676.length co33) t676)∧Aside0 (Kd.R (Kd.int .i64) 2 wc w.heap.size (fun k_ => some k_≠((.slice Ao33 t676.length co33) : Value).ownBlock∧some k_≠((.slice Ao51 t690.length co51) : Value).ownBlock) (.slice Ao43 t685.length co43) t708)∧Aside0 (Kd.R (Kd.int .i64) 2 wc w.heap.size (fun k_ => some k_≠((.slice Ao33 t676.length co33) : Value).ownBlock∧some k_≠((.slice Ao43 t685.length co43) : Value).ownBlock) (.slice Ao51 t690.length co51) t690)∧Aside0 (wc.heap[gb665]? = some (.cells #[.int .i64 a1_0,(.slice A1_1 l1_1.length c1_1)] 25 (0,0)))∧Aside0 (wc.heap[gb680]? = some (.cells #[.int .i64 t675,(.slice Ao33 t676.length co33)] 30 (0,0)))∧Aside0 (wc.heap[gb688]? = some (.cells #[.int .i64 t684,(.slice Ao43 t685.length co43)] 30 (0,0)))∧Aside0 (wc.heap[gb694]? = some (.cells #[.int .i64 t689,(.slice Ao51 t690.length co51)] 30 (0,0)))∧Aside0 (Below w.heap.size w wc))
        case first =>
         have H:=HC79.out
         clear HC79
         by_cases c92 : t707 < 0
         ·rw [if_pos c92] at H
          have c92b0 : decide (t707 < 0) = true:=decide_eq_true c92
          clear c92
          (first|rw [c92b0]|(simp only [i64_w,i32_w];rw [c92b0])|skip)
          have H':=am H
          clear H
          go_wp2
          go_meet
          case rel => exact ⟨_,(true),(by first|rfl|(simp;done)|(simp [*];done)),H',⟨by have:=HJ19.out;first|omega|exact Nat.le_refl _⟩,⟨kup (Kd.R_mono HO_681001.out (fun _ hk => ⟨hk.1,hk.2.1⟩))⟩,⟨kup (Kd.R_mono HO_689001.out (fun _ hk => ⟨hk.1,hk.2.1⟩))⟩,⟨kup (Kd.R_mono HO_695001.out (fun _ hk => ⟨hk.1,hk.2.1⟩))⟩,⟨bup BK665.out⟩,⟨bup BK680.out⟩,⟨bup BK688.out⟩,⟨bup BK694.out⟩,⟨lup HB.out⟩⟩
         ·rw [if_neg c92] at H
          have c92b0 : decide (t707 < 0) = false:=decide_eq_false c92
          clear c92
          (first|rw [c92b0]|(simp only [i64_w,i32_w];rw [c92b0])|skip)
          replace H:=Option.bind_eq_some_iff.mp H
          obtain ⟨t709,A930,H⟩:=H
          try dsimp only at H
          have A93:=am A930
          clear A930
          by_cases c94 : t709 = true
          ·subst c94
           have H1:=H;rw [if_pos rfl] at H1
           clear H
           have H:=H1
           clear H1
           have H':=am H
           clear H
           have hnb95:=NB694_665.out
           have hnc95:=NB665_694.out
           have hnb96:=NB694_680.out
           have hnc96:=NB680_694.out
           have hnb97:=NB694_688.out
           have hnc97:=NB688_694.out
           have hcz98_0 : w91.cell? ⟨gb694,0,none⟩ = some (.int .i64 t689):=(blk_cell BK694.out 0).trans rfl
           have hcz98_1 : w91.cell? ⟨gb694,1,none⟩ = some (.slice Ao51 t690.length co51):=(blk_cell BK694.out 1).trans rfl
           have hfz98_0:=blk_frozen BK694.out 0
           have hfz98_1:=blk_frozen BK694.out 1
           have hnb99:=NB680_665.out
           have hnc99:=NB665_680.out
           have hnb100:=NB680_688.out
           have hnc100:=NB688_680.out
           have hcz101_0 : w91.cell? ⟨gb680,0,none⟩ = some (.int .i64 t675):=(blk_cell BK680.out 0).trans rfl
           have hcz101_1 : w91.cell? ⟨gb680,1,none⟩ = some (.slice Ao33 t676.length co33):=(blk_cell BK680.out 1).trans rfl
           have hfz101_0:=blk_frozen BK680.out 0
           have hfz101_1:=blk_frozen BK680.out 1
           go_wp2_with (first|(go_at_call 23;(with_reducible refine (laws_eqNursery.calls kj19 t689 _ _ t690 t675 _ _ t676 true _ ?side1 ?side2 ?side3 ?side4 A93.out).mono ?_);(case side1 => repeat (first|exact (Kd.R_reads' HO_695001.out).2.2|(with_reducible first|refine Kd.C_alloc ?_ _|refine Kd.C_drewN ?_ _|refine Kd.C_drew ?_)));(case side2 => exact (Kd.R_reads' HO_695001.out).2.1);(case side3 => repeat (first|exact (Kd.R_reads' HO_681001.out).2.2|(with_reducible first|refine Kd.C_alloc ?_ _|refine Kd.C_drewN ?_ _|refine Kd.C_drew ?_)));(case side4 => exact (Kd.R_reads' HO_681001.out).2.1);rintro e w102 ⟨rfl,hb⟩;have n0_:=am (Kd.R_below (kup HO_14.out) hb);have n1_:=am (Kd.R_below (kup HO_681001.out) hb);have n2_:=am (Kd.R_below (kup HO_689001.out) hb);have n3_:=am (Kd.R_below (kup HO_695001.out) hb);have n4_:=am (Kd.R_below (kup HO698.out) hb);have n5_:=am (Kd.R_below (kup HO703.out) hb);have n6_:=am (blk_below (bup BK665.out) hb);have n7_:=am (blk_below (bup BK680.out) hb);have n8_:=am (blk_below (bup BK688.out) hb);have n9_:=am (blk_below (bup BK694.out) hb);have n10_:=am (below_step (lup HB.out) hb);clear HO_14 HO_681001 HO_689001 HO_695001 HO698 HO703 BK665 BK680 BK688 BK694 HB;have HO_14:=n0_;have HO_681001:=n1_;have HO_689001:=n2_;have HO_695001:=n3_;have HO698:=n4_;have HO703:=n5_;have BK665:=n6_;have BK680:=n7_;have BK688:=n8_;have BK694:=n9_;have HB:=n10_;clear n0_ n1_ n2_ n3_ n4_ n5_ n6_ n7_ n8_ n9_ n10_;(try clear hb);(try clear hb2);(try clear hk);(try clear hi)))
           go_meet
           case rel => exact ⟨_,((t693 != t679)),(by first|rfl|(simp;done)|(simp [*];done)),H',⟨by have:=HJ19.out;first|omega|exact Nat.le_refl _⟩,⟨kup (Kd.R_mono HO_681001.out (fun _ hk => ⟨hk.1,hk.2.1⟩))⟩,⟨kup (Kd.R_mono HO_689001.out (fun _ hk => ⟨hk.1,hk.2.1⟩))⟩,⟨kup (Kd.R_mono HO_695001.out (fun _ hk => ⟨hk.1,hk.2.1⟩))⟩,⟨bup BK665.out⟩,⟨bup BK680.out⟩,⟨bup BK688.out⟩,⟨bup BK694.out⟩,⟨lup HB.out⟩⟩
          ·replace c94:=Bool.eq_false_iff.mpr c94
           subst c94
           have H1 : (laws_FnExactYoungSet.j1 kj19 l0 a2 a3 a4 t679 true a1_0 l1_1 t675 t676 t689 t690) = some r:=by rw [if_neg (show ¬ (false = true) by decide)] at H;exact H
           clear H
           have H:=H1
           clear H1
           have H':=am H
           clear H
           have hnb103:=NB694_665.out
           have hnc103:=NB665_694.out
           have hnb104:=NB694_680.out
           have hnc104:=NB680_694.out
           have hnb105:=NB694_688.out
           have hnc105:=NB688_694.out
           have hcz106_0 : w91.cell? ⟨gb694,0,none⟩ = some (.int .i64 t689):=(blk_cell BK694.out 0).trans rfl
           have hcz106_1 : w91.cell? ⟨gb694,1,none⟩ = some (.slice Ao51 t690.length co51):=(blk_cell BK694.out 1).trans rfl
           have hfz106_0:=blk_frozen BK694.out 0
           have hfz106_1:=blk_frozen BK694.out 1
           have hnb107:=NB680_665.out
           have hnc107:=NB665_680.out
           have hnb108:=NB680_688.out
           have hnc108:=NB688_680.out
           have hcz109_0 : w91.cell? ⟨gb680,0,none⟩ = some (.int .i64 t675):=(blk_cell BK680.out 0).trans rfl
           have hcz109_1 : w91.cell? ⟨gb680,1,none⟩ = some (.slice Ao33 t676.length co33):=(blk_cell BK680.out 1).trans rfl
           have hfz109_0:=blk_frozen BK680.out 0
           have hfz109_1:=blk_frozen BK680.out 1
           go_wp2_with (first|(go_at_call 23;(with_reducible refine (laws_eqNursery.calls kj19 t689 _ _ t690 t675 _ _ t676 false _ ?side1 ?side2 ?side3 ?side4 A93.out).mono ?_);(case side1 => repeat (first|exact (Kd.R_reads' HO_695001.out).2.2|(with_reducible first|refine Kd.C_alloc ?_ _|refine Kd.C_drewN ?_ _|refine Kd.C_drew ?_)));(case side2 => exact (Kd.R_reads' HO_695001.out).2.1);(case side3 => repeat (first|exact (Kd.R_reads' HO_681001.out).2.2|(with_reducible first|refine Kd.C_alloc ?_ _|refine Kd.C_drewN ?_ _|refine Kd.C_drew ?_)));(case side4 => exact (Kd.R_reads' HO_681001.out).2.1);rintro e w110 ⟨rfl,hb⟩;have n0_:=am (Kd.R_below (kup HO_14.out) hb);have n1_:=am (Kd.R_below (kup HO_681001.out) hb);have n2_:=am (Kd.R_below (kup HO_689001.out) hb);have n3_:=am (Kd.R_below (kup HO_695001.out) hb);have n4_:=am (Kd.R_below (kup HO698.out) hb);have n5_:=am (Kd.R_below (kup HO703.out) hb);have n6_:=am (blk_below (bup BK665.out) hb);have n7_:=am (blk_below (bup BK680.out) hb);have n8_:=am (blk_below (bup BK688.out) hb);have n9_:=am (blk_below (bup BK694.out) hb);have n10_:=am (below_step (lup HB.out) hb);clear HO_14 HO_681001 HO_689001 HO_695001 HO698 HO703 BK665 BK680 BK688 BK694 HB;have HO_14:=n0_;have HO_681001:=n1_;have HO_689001:=n2_;have HO_695001:=n3_;have HO698:=n4_;have HO703:=n5_;have BK665:=n6_;have BK680:=n7_;have BK688:=n8_;have BK694:=n9_;have HB:=n10_;clear n0_ n1_ n2_ n3_ n4_ n5_ n6_ n7_ n8_ n9_ n10_;(try clear hb);(try clear hb2);(try clear hk);(try clear hi)))
           go_meet
           case rel => exact ⟨_,(true),(by first|rfl|(simp;done)|(simp [*];done)),H',⟨by have:=HJ19.out;first|omega|exact Nat.le_refl _⟩,⟨kup (Kd.R_mono HO_681001.out (fun _ hk => ⟨hk.1,hk.2.1⟩))⟩,⟨kup (Kd.R_mono HO_689001.out (fun _ hk => ⟨hk.1,hk.2.1⟩))⟩,⟨kup (Kd.R_mono HO_695001.out (fun _ hk => ⟨hk.1,hk.2.1⟩))⟩,⟨bup BK665.out⟩,⟨bup BK680.out⟩,⟨bup BK688.out⟩,⟨bup BK694.out⟩,⟨lup HB.out⟩⟩
        case rest =>
         clear HC79
         try clear c1
         try clear c2
         try clear p2
         try clear c3
         try clear c4
         try clear c5
         try clear c6
         try clear c7
         try clear c8
         try clear c9
         try clear c10
         try clear c19
         try clear c20
         try clear c22
         try clear c23
         try clear c27
         try clear c28
         try clear c36
         try clear c40
         try clear c41
         try clear c42
         try clear c47
         try clear c48
         try clear c49
         try clear c53
         try clear c54
         try clear c55
         try clear c56
         try clear c58
         try clear c59
         try clear c62
         try clear c63
         try clear c64
         try clear c66
         try clear c67
         try clear c70
         try clear c73
         try clear c76
         try clear c87
         try clear c88
         try clear c89
         try clear c92
         try clear c92b0
         try clear c94
         try clear c95
         try clear c96
         try clear c97
         try clear c99
         try clear c100
         try clear c103
         try clear c104
         try clear c105
         try clear c107
         try clear c108
         try clear hcz101_0
         try clear hcz101_1
         try clear hcz106_0
         try clear hcz106_1
         try clear hcz109_0
         try clear hcz109_1
         try clear hcz37_0
         try clear hcz37_1
         try clear hcz42_0
         try clear hcz42_1
         try clear hcz50_0
         try clear hcz50_1
         try clear hcz57_0
         try clear hcz57_1
         try clear hcz60_0
         try clear hcz60_1
         try clear hcz65_0
         try clear hcz65_1
         try clear hcz68_0
         try clear hcz68_1
         try clear hcz90_0
         try clear hcz90_1
         try clear hcz98_0
         try clear hcz98_1
         try clear hfz101_0
         try clear hfz101_1
         try clear hfz106_0
         try clear hfz106_1
         try clear hfz109_0
         try clear hfz109_1
         try clear hfz37_0
         try clear hfz37_1
         try clear hfz42_0
         try clear hfz42_1
         try clear hfz50_0
         try clear hfz50_1
         try clear hfz57_0
         try clear hfz57_1
         try clear hfz60_0
         try clear hfz60_1
         try clear hfz65_0
         try clear hfz65_1
         try clear hfz68_0
         try clear hfz68_1
         try clear hfz90_0
         try clear hfz90_1
         try clear hfz98_0
         try clear hfz98_1
         try clear p2
         obtain ⟨kq,x94_78,rfl,HA,HJ78,HO_681001,HO_689001,HO_695001,BK665,BK680,BK688,BK694,HB⟩:=hcut
         have hl689001_78:=(Kd.R_reads' HO_689001.out).1
         rw [hl689001_78] at HO_689001
         (try simp only [hl689001_78])
         (try simp only [hl689001_78] at BK665)
         (try simp only [hl689001_78] at BK680)
         (try simp only [hl689001_78] at BK688)
         (try simp only [hl689001_78] at BK694)
         (try simp only [hl689001_78] at HO_681001)
         (try simp only [hl689001_78] at HO_695001)
         cases kq with
         | zero => exact absurd HA.out (by simp [laws_FnExactYoungSet.j1])
         | succ kj78 =>
          have H:=HA.out
          clear HA
          simp only [laws_FnExactYoungSet.j1] at H
          by_cases c111 : x94_78 = true
          ·subst c111
           have H1:=H;rw [if_pos rfl] at H1
           clear H
           have H:=H1
           clear H1
           obtain rfl:=Option.some.inj H
           go_wp2
           go_ret
           exact ⟨by first|rfl|(simp [errW_none,errW_some] <;> rfl)|(simp [*,errW_none,errW_some] <;> rfl),by repeat (first|(with_reducible first|exact HB.out|apply below_alloc|apply pw_below_drewN|apply below_drew1|refine below_set ?_ GE665.out|refine below_set ?_ GE680.out|refine below_set ?_ GE688.out|refine below_set ?_ GE694.out)|exact HB.out)⟩
          ·replace c111:=Bool.eq_false_iff.mpr c111
           subst c111
           have H1 : ((laws_markNursery.f kj78 t689 t690 1).bind fun bt710 => ((laws_heldNursery.f kj78 t689 bt710.2 1).bind fun t712 => (if t712 < 0 then (some false) else (if t712 = bt710.1 then ((laws_toStringS.f kj78 l0).bind fun t713 => ((laws_toNursery.f kj78 a1_0 l1_1).bind fun bt716 => ((impl_YoungSet.f kj78 t713 bt716.1 bt716.2 a2 a3 a4).bind fun bt720 => ((laws_eqNursery.f kj78 bt720.1 bt720.2.1 t675 t676).bind fun t726 => (if t726 = true then (laws_FnExactYoungSet.j2 kj78 bt710.1 (bt720.2.2 != t679) t689 bt710.2) else (laws_FnExactYoungSet.j2 kj78 bt710.1 true t689 bt710.2)))))) else (some false))))) = some r:=by rw [if_neg (show ¬ (false = true) by decide)] at H;exact H
           clear H
           have H:=H1
           clear H1
           replace H:=Option.bind_eq_some_iff.mp H
           obtain ⟨⟨t710,t711⟩,A1120,H⟩:=H
           try dsimp only at H
           have A112:=am A1120
           clear A1120
           replace H:=Option.bind_eq_some_iff.mp H
           obtain ⟨t712,A1130,H⟩:=H
           try dsimp only at H
           have A113:=am A1130
           clear A1130
           by_cases c114 : t712 < 0
           ·rw [if_pos c114] at H
            have c114b0 : decide (t712 < 0) = true:=decide_eq_true c114
            clear c114
            obtain rfl:=Option.some.inj H
            have hnb115:=NB694_665.out
            have hnc115:=NB665_694.out
            have hnb116:=NB694_680.out
            have hnc116:=NB680_694.out
            have hnb117:=NB694_688.out
            have hnc117:=NB688_694.out
            have hcz118_0 : wc.cell? ⟨gb694,0,none⟩ = some (.int .i64 t689):=(blk_cell BK694.out 0).trans rfl
            have hcz118_1 : wc.cell? ⟨gb694,1,none⟩ = some (.slice Ao51 t690.length co51):=(blk_cell BK694.out 1).trans rfl
            have hfz118_0:=blk_frozen BK694.out 0
            have hfz118_1:=blk_frozen BK694.out 1
            go_wp2_with (first|((with_reducible refine gate_callee (f:=28) rfl ?_);refine goesL_ (some 97) rfl rfl Tryd.func28 (by kernel_rfl) rfl #[.agg #[.int .i64 t689,.slice Ao51 t690.length co51],.int .i64 1] rfl (by (try simp only [List.map_toArray,List.map_cons,List.map_nil]);first|done|rfl|(simp only [List.length_drop,List.length_take];rfl)) ?_;(with_reducible refine (laws_markNursery.calls kj78 t689 (fun k_ => some k_ = (.slice Ao51 t690.length co51 : Value).ownBlock) (.slice Ao51 t690.length co51) t690 1 t710 t711 w _ ?side1 ?side2 A112.out).mono ?_);(case side1 => repeat (first|(with_reducible first|exact HB.out|apply below_alloc|apply pw_below_drewN|apply below_drew1|refine below_set ?_ GE665.out|refine below_set ?_ GE680.out|refine below_set ?_ GE688.out|refine below_set ?_ GE694.out)|exact HB.out));(case side2 => exact Kd.R_tight rfl HO_695001.out);rintro e w119 ⟨rfl,hy0,hb,hkp⟩;refine ⟨_,rfl,?_⟩;have n0_:=am (Kd.R_mono (ok':=fun k_ => some k_≠(.slice Ao43 t708.length co43 : Value).ownBlock∧some k_≠(.slice Ao51 t690.length co51 : Value).ownBlock) (Kd.R_keptB (HO_681001.out) hkp (fun k_ hk_ hs_ => by first|exact hk_.2 hs_|exact hk_ hs_)) (fun k_ hk_ => by first|exact ⟨hk_.1.1,hk_.1.2⟩|(simp only [and_assoc] at hk_;exact ⟨hk_.1,hk_.2.1⟩)));have n1_:=am (Kd.R_mono (ok':=fun k_ => some k_≠(.slice Ao33 t676.length co33 : Value).ownBlock∧some k_≠(.slice Ao51 t690.length co51 : Value).ownBlock) (Kd.R_keptB (HO_689001.out) hkp (fun k_ hk_ hs_ => by first|exact hk_.2 hs_|exact hk_ hs_)) (fun k_ hk_ => by first|exact ⟨hk_.1.1,hk_.1.2⟩|(simp only [and_assoc] at hk_;exact ⟨hk_.1,hk_.2.1⟩)));have n2_:=am (Kd.R_reok rfl hy0 (fun k_ e_ => HO_695001.out.1 k_ e_));have n3_:=am (blk_kept (bup BK665.out) hkp (fun hs_ => (fun e_ => (Kd.R_ne HO_695001.out BK665.out (by decide)) e_) hs_));have n4_:=am (blk_kept (bup BK680.out) hkp (fun hs_ => (fun e_ => (Kd.R_ne HO_695001.out BK680.out (by decide)) e_) hs_));have n5_:=am (blk_kept (bup BK688.out) hkp (fun hs_ => (fun e_ => (Kd.R_ne HO_695001.out BK688.out (by decide)) e_) hs_));have n6_:=am (blk_kept (bup BK694.out) hkp (fun hs_ => (fun e_ => (Kd.R_ne HO_695001.out BK694.out (by decide)) e_) hs_));have n7_:=am (hb);clear HO_681001 HO_689001 HO_695001 BK665 BK680 BK688 BK694 HB;have HO_681001:=n0_;have HO_689001:=n1_;have HO_695001:=n2_;have BK665:=n3_;have BK680:=n4_;have BK688:=n5_;have BK694:=n6_;have HB:=n7_;clear n0_ n1_ n2_ n3_ n4_ n5_ n6_ n7_;(try clear hb);(try clear hkp);(try clear hy0);have hcz120_0 : w119.cell? ⟨gb694,0,none⟩ = some (.int .i64 t689):=(blk_cell BK694.out 0).trans rfl;have hcz120_1 : w119.cell? ⟨gb694,1,none⟩ = some (.slice Ao51 t690.length co51):=(blk_cell BK694.out 1).trans rfl;have hfz120_0:=blk_frozen BK694.out 0;have hfz120_1:=blk_frozen BK694.out 1)|((with_reducible refine gate_callee (f:=40) rfl ?_);refine goesL_ (some 100) rfl rfl Tryd.func40 (by kernel_rfl) rfl #[.agg #[.int .i64 t689,.slice Ao51 t711.length co51],.int .i64 1] rfl (by (try simp only [List.map_toArray,List.map_cons,List.map_nil]);first|done|(rw [show t711.length = t690.length from (Kd.R_reads' HO_695001.out).1.symm] <;> rfl)|rfl|(simp only [List.length_drop,List.length_take];rfl)) ?_;(with_reducible refine (laws_heldNursery.calls kj78 t689 _ _ t711 1 t712 _ ?side1 ?side2 A113.out).mono ?_);(case side1 => repeat (first|exact (Kd.R_reads' HO_695001.out).2.2|(with_reducible first|refine Kd.C_alloc ?_ _|refine Kd.C_drewN ?_ _|refine Kd.C_drew ?_)));(case side2 => rw [show t711.length = t690.length from (Kd.R_reads' HO_695001.out).1.symm];exact (Kd.R_reads' HO_695001.out).2.1);rintro e w121 ⟨rfl,hb⟩;refine ⟨_,rfl,?_⟩;have n0_:=am (Kd.R_below (kup HO_681001.out) hb);have n1_:=am (Kd.R_below (kup HO_689001.out) hb);have n2_:=am (Kd.R_below (kup HO_695001.out) hb);have n3_:=am (blk_below (bup BK665.out) hb);have n4_:=am (blk_below (bup BK680.out) hb);have n5_:=am (blk_below (bup BK688.out) hb);have n6_:=am (blk_below (bup BK694.out) hb);have n7_:=am (below_step (lup HB.out) hb);clear HO_681001 HO_689001 HO_695001 BK665 BK680 BK688 BK694 HB;have HO_681001:=n0_;have HO_689001:=n1_;have HO_695001:=n2_;have BK665:=n3_;have BK680:=n4_;have BK688:=n5_;have BK694:=n6_;have HB:=n7_;clear n0_ n1_ n2_ n3_ n4_ n5_ n6_ n7_;(try clear hb);(try clear hb2);(try clear hk);(try clear hi)))
            go_ret
            exact ⟨by first|rfl|(simp [errW_none,errW_some] <;> rfl)|(simp [*,errW_none,errW_some] <;> rfl),by repeat (first|(with_reducible first|exact HB.out|apply below_alloc|apply pw_below_drewN|apply below_drew1|refine below_set ?_ GE665.out|refine below_set ?_ GE680.out|refine below_set ?_ GE688.out|refine below_set ?_ GE694.out)|exact HB.out)⟩
           ·rw [if_neg c114] at H
            have c114b0 : decide (t712 < 0) = false:=decide_eq_false c114
            clear c114
            by_cases c122 : t712 = t710
            ·rw [if_pos c122] at H
             have c122b0 : (t712 == t710) = true:=beq_iff_eq.mpr c122
             have c122b1 : (t712 != t710) = false:=bne_eq_false_iff_eq.mpr c122
             clear c122
             replace H:=Option.bind_eq_some_iff.mp H
             obtain ⟨t713,A1230,H⟩:=H
             try dsimp only at H
             have A123:=am A1230
             clear A1230
             replace H:=Option.bind_eq_some_iff.mp H
             obtain ⟨⟨t716,t717⟩,A1240,H⟩:=H
             try dsimp only at H
             have A124:=am A1240
             clear A1240
             replace H:=Option.bind_eq_some_iff.mp H
             obtain ⟨⟨t720,t721,t724⟩,A1250,H⟩:=H
             try dsimp only at H
             have A125:=am A1250
             clear A1250
             have HC126:=am H
             clear H
             have hnb127:=NB694_665.out
             have hnc127:=NB665_694.out
             have hnb128:=NB694_680.out
             have hnc128:=NB680_694.out
             have hnb129:=NB694_688.out
             have hnc129:=NB688_694.out
             have hcz130_0 : wc.cell? ⟨gb694,0,none⟩ = some (.int .i64 t689):=(blk_cell BK694.out 0).trans rfl
             have hcz130_1 : wc.cell? ⟨gb694,1,none⟩ = some (.slice Ao51 t690.length co51):=(blk_cell BK694.out 1).trans rfl
             have hfz130_0:=blk_frozen BK694.out 0
             have hfz130_1:=blk_frozen BK694.out 1
             try go_wp2_with (first|((with_reducible refine gate_callee (f:=28) rfl ?_);refine goesL_ (some 97) rfl rfl Tryd.func28 (by kernel_rfl) rfl #[.agg #[.int .i64 t689,.slice Ao51 t690.length co51],.int .i64 1] rfl (by (try simp only [List.map_toArray,List.map_cons,List.map_nil]);first|done|rfl|(simp only [List.length_drop,List.length_take];rfl)) ?_;(with_reducible refine (laws_markNursery.calls kj78 t689 (fun k_ => some k_ = (.slice Ao51 t690.length co51 : Value).ownBlock) (.slice Ao51 t690.length co51) t690 1 t710 t711 w _ ?side1 ?side2 A112.out).mono ?_);(case side1 => repeat (first|(with_reducible first|exact HB.out|apply below_alloc|apply pw_below_drewN|apply below_drew1|refine below_set ?_ GE665.out|refine below_set ?_ GE680.out|refine below_set ?_ GE688.out|refine below_set ?_ GE694.out)|exact HB.out));(case side2 => exact Kd.R_tight rfl HO_695001.out);rintro e w131 ⟨rfl,hy0,hb,hkp⟩;refine ⟨_,rfl,?_⟩;have n0_:=am (Kd.R_mono (ok':=fun k_ => some k_≠(.slice Ao43 t708.length co43 : Value).ownBlock∧some k_≠(.slice Ao51 t690.length co51 : Value).ownBlock) (Kd.R_keptB (HO_681001.out) hkp (fun k_ hk_ hs_ => by first|exact hk_.2 hs_|exact hk_ hs_)) (fun k_ hk_ => by first|exact ⟨hk_.1.1,hk_.1.2⟩|(simp only [and_assoc] at hk_;exact ⟨hk_.1,hk_.2.1⟩)));have n1_:=am (Kd.R_mono (ok':=fun k_ => some k_≠(.slice Ao33 t676.length co33 : Value).ownBlock∧some k_≠(.slice Ao51 t690.length co51 : Value).ownBlock) (Kd.R_keptB (HO_689001.out) hkp (fun k_ hk_ hs_ => by first|exact hk_.2 hs_|exact hk_ hs_)) (fun k_ hk_ => by first|exact ⟨hk_.1.1,hk_.1.2⟩|(simp only [and_assoc] at hk_;exact ⟨hk_.1,hk_.2.1⟩)));have n2_:=am (Kd.R_reok rfl hy0 (fun k_ e_ => HO_695001.out.1 k_ e_));have n3_:=am (blk_kept (bup BK665.out) hkp (fun hs_ => (fun e_ => (Kd.R_ne HO_695001.out BK665.out (by decide)) e_) hs_));have n4_:=am (blk_kept (bup BK680.out) hkp (fun hs_ => (fun e_ => (Kd.R_ne HO_695001.out BK680.out (by decide)) e_) hs_));have n5_:=am (blk_kept (bup BK688.out) hkp (fun hs_ => (fun e_ => (Kd.R_ne HO_695001.out BK688.out (by decide)) e_) hs_));have n6_:=am (blk_kept (bup BK694.out) hkp (fun hs_ => (fun e_ => (Kd.R_ne HO_695001.out BK694.out (by decide)) e_) hs_));have n7_:=am (hb);clear HO_681001 HO_689001 HO_695001 BK665 BK680 BK688 BK694 HB;have HO_681001:=n0_;have HO_689001:=n1_;have HO_695001:=n2_;have BK665:=n3_;have BK680:=n4_;have BK688:=n5_;have BK694:=n6_;have HB:=n7_;clear n0_ n1_ n2_ n3_ n4_ n5_ n6_ n7_;(try clear hb);(try clear hkp);(try clear hy0);have hcz132_0 : w131.cell? ⟨gb694,0,none⟩ = some (.int .i64 t689):=(blk_cell BK694.out 0).trans rfl;have hcz132_1 : w131.cell? ⟨gb694,1,none⟩ = some (.slice Ao51 t690.length co51):=(blk_cell BK694.out 1).trans rfl;have hfz132_0:=blk_frozen BK694.out 0;have hfz132_1:=blk_frozen BK694.out 1)|((with_reducible refine gate_callee (f:=40) rfl ?_);refine goesL_ (some 100) rfl rfl Tryd.func40 (by kernel_rfl) rfl #[.agg #[.int .i64 t689,.slice Ao51 t711.length co51],.int .i64 1] rfl (by (try simp only [List.map_toArray,List.map_cons,List.map_nil]);first|done|(rw [show t711.length = t690.length from (Kd.R_reads' HO_695001.out).1.symm] <;> rfl)|rfl|(simp only [List.length_drop,List.length_take];rfl)) ?_;(with_reducible refine (laws_heldNursery.calls kj78 t689 _ _ t711 1 t712 _ ?side1 ?side2 A113.out).mono ?_);(case side1 => repeat (first|exact (Kd.R_reads' HO_695001.out).2.2|(with_reducible first|refine Kd.C_alloc ?_ _|refine Kd.C_drewN ?_ _|refine Kd.C_drew ?_)));(case side2 => rw [show t711.length = t690.length from (Kd.R_reads' HO_695001.out).1.symm];exact (Kd.R_reads' HO_695001.out).2.1);rintro e w133 ⟨rfl,hb⟩;refine ⟨_,rfl,?_⟩;have n0_:=am (Kd.R_below (kup HO_681001.out) hb);have n1_:=am (Kd.R_below (kup HO_689001.out) hb);have n2_:=am (Kd.R_below (kup HO_695001.out) hb);have n3_:=am (blk_below (bup BK665.out) hb);have n4_:=am (blk_below (bup BK680.out) hb);have n5_:=am (blk_below (bup BK688.out) hb);have n6_:=am (blk_below (bup BK694.out) hb);have n7_:=am (below_step (lup HB.out) hb);clear HO_681001 HO_689001 HO_695001 BK665 BK680 BK688 BK694 HB;have HO_681001:=n0_;have HO_689001:=n1_;have HO_695001:=n2_;have BK665:=n3_;have BK680:=n4_;have BK688:=n5_;have BK694:=n6_;have HB:=n7_;clear n0_ n1_ n2_ n3_ n4_ n5_ n6_ n7_;(try clear hb);(try clear hb2);(try clear hk);(try clear hi)))
             have n0_:=am (Kd.R_drew HO_681001.out)
             have n1_:=am (Kd.R_drew HO_689001.out)
             have n2_:=am (Kd.R_drew HO_695001.out)
             have n3_:=am (blk_drew BK665.out)
             have n4_:=am (blk_drew BK680.out)
             have n5_:=am (blk_drew BK688.out)
             have n6_:=am (blk_drew BK694.out)
             have n7_:=am (below_drew1 HB.out)
             clear HO_681001
             clear HO_689001
             clear HO_695001
             clear BK665
             clear BK680
             clear BK688
             clear BK694
             clear HB
             have HO_681001:=n0_
             have HO_689001:=n1_
             have HO_695001:=n2_
             have BK665:=n3_
             have BK680:=n4_
             have BK688:=n5_
             have BK694:=n6_
             have HB:=n7_
             clear n0_ n1_ n2_ n3_ n4_ n5_ n6_ n7_
             refine start_ (n:=14) (S:=fun w' => w'.cell? ⟨gb665,0,none⟩ = some (.int .i64 a1_0)∧w'.cell? ⟨gb665,1,none⟩ = some (.slice A1_1 l1_1.length c1_1)) (ds:=[]) #[false,false,false,false,false,false,false,false,false,false,false,false,false,false] (by kernel_rfl) rfl rfl ⟨(blk_cell BK665.out 0).trans rfl,(blk_cell BK665.out 1).trans rfl⟩ (fun hHeld => ?_);refine with_tabW laws_FnExactYoungSet.tab31 laws_FnExactYoungSet.bits31 (fun HT_ HW_ => ?_)
             generalize w133.drew = w134 at HO_681001 HO_689001 HO_695001 BK665 BK680 BK688 BK694 HB hHeld ⊢
             refine pure_ (i:=0) (N:=some 107) (v:=?_) (a':=?_) #[true,false,false,false,false,false,false,false,false,false,false,false,false,false] rfl rfl (any_of HT_.out (by kernel_rfl)) (fun _ _ _ h => h) (Or.inl ⟨by rfl,?_⟩) ?_ ?_
             rotate_left
             ·intro w'
              go_simp
              with_reducible rfl
             rotate_left
             ·simp only [Act.put,List.setIfInBounds_toArray,List.set_cons_zero,List.set_cons_succ,i64_w,i32_w]
              rfl
             refine pure_ (i:=4) (N:=some 111) (v:=?_) (a':=?_) #[true,false,false,false,true,false,false,false,false,false,false,false,false,false] rfl rfl (any_of HT_.out (by kernel_rfl)) (fun _ _ _ h => h) (Or.inl ⟨by rfl,?_⟩) ?_ ?_
             rotate_left
             ·intro w'
              go_simp
              with_reducible rfl
             rotate_left
             ·simp only [Act.put,List.setIfInBounds_toArray,List.set_cons_zero,List.set_cons_succ,i64_w,i32_w]
              rfl
             refine pure_ (i:=5) (N:=some 112) (v:=?_) (a':=?_) #[true,false,false,false,true,true,false,false,false,false,false,false,false,false] rfl rfl (any_of HT_.out (by kernel_rfl)) (fun _ _ _ h => h) (Or.inl ⟨by rfl,?_⟩) ?_ ?_
             rotate_left
             ·intro w'
              go_simp
              with_reducible rfl
             rotate_left
             ·simp only [Act.put,List.setIfInBounds_toArray,List.set_cons_zero,List.set_cons_succ,i64_w,i32_w]
              rfl
             refine pure_ (i:=6) (N:=some 113) (v:=?_) (a':=?_) #[true,false,false,false,true,true,true,false,false,false,false,false,false,false] rfl rfl (any_of HT_.out (by kernel_rfl)) (fun _ _ _ h => h) (Or.inl ⟨by rfl,?_⟩) ?_ ?_
             rotate_left
             ·intro w'
              go_simp
              with_reducible rfl
             rotate_left
             ·simp only [Act.put,List.setIfInBounds_toArray,List.set_cons_zero,List.set_cons_succ,i64_w,i32_w]
              rfl
             refine take_ (i:=2) (N:=some 109) (v:=?_) (a':=?_) #[true,false,true,false,true,true,true,false,false,false,false,false,false,false] rfl rfl (take_ofW HT_.out HW_.out (by kernel_rfl)) (fun _ _ _ h => h) (Or.inl ⟨by rfl,?_⟩) hHeld ?_ ?_
             rotate_left
             ·rintro w' ⟨s0,s1⟩
              go_simp
              with_reducible rfl
             rotate_left
             ·simp only [Act.put,List.setIfInBounds_toArray,List.set_cons_zero,List.set_cons_succ,i64_w,i32_w]
              rfl
             refine join_ (σ:=Value × Value × Value × Nat) 2 #[true,true,true,true,true,true,true,true,true,true,true,true,false,false] (fun s_ => [(108,s_.1),(110,.agg #[.int .i64 t716,s_.2.1]),(114,.tuple #[.agg #[.int .i64 t720,s_.2.2.1],.bool t724]),(21,.pointer (some ⟨s_.2.2.2,0,none⟩)),(106,.tuple #[.agg #[.int .i64 t720,s_.2.2.1],.bool t724]),(115,.agg #[.int .i64 t720,s_.2.2.1]),(116,.bool t724)]) (fun s_ w' => (w'.cell? ⟨gb665,0,none⟩ = some (.int .i64 a1_0)∧w'.cell? ⟨gb665,1,none⟩ = some (.slice A1_1 l1_1.length c1_1))∧(Kd.R Kd.string 9 w' w.heap.size (fun _ => True) s_.1 t713)∧(Kd.R (Kd.int .i64) 2 w' w.heap.size (fun k_ => some k_≠(s_.2.2.1 : Value).ownBlock∧some k_≠(.slice Ao33 t676.length co33 : Value).ownBlock∧some k_≠(.slice Ao43 t708.length co43 : Value).ownBlock∧some k_≠(.slice Ao51 t690.length co51 : Value).ownBlock) s_.2.1 t717)∧(Kd.R (Kd.int .i64) 2 w' w.heap.size (fun k_ => some k_≠(s_.2.1 : Value).ownBlock∧some k_≠(.slice Ao33 t676.length co33 : Value).ownBlock∧some k_≠(.slice Ao43 t708.length co43 : Value).ownBlock∧some k_≠(.slice Ao51 t690.length co51 : Value).ownBlock) s_.2.2.1 t721)∧(Kd.R (Kd.int .i64) 2 w' w.heap.size (fun k_ => some k_≠(s_.2.1 : Value).ownBlock∧some k_≠(s_.2.2.1 : Value).ownBlock∧some k_≠(.slice Ao43 t708.length co43 : Value).ownBlock∧some k_≠(.slice Ao51 t690.length co51 : Value).ownBlock) (.slice Ao33 t676.length co33) t676)∧(Kd.R (Kd.int .i64) 2 w' w.heap.size (fun k_ => some k_≠(s_.2.1 : Value).ownBlock∧some k_≠(s_.2.2.1 : Value).ownBlock∧some k_≠(.slice Ao33 t676.length co33 : Value).ownBlock∧some k_≠(.slice Ao51 t690.length co51 : Value).ownBlock) (.slice Ao43 t708.length co43) t708)∧(Kd.R (Kd.int .i64) 2 w' w.heap.size (fun k_ => some k_≠(s_.2.1 : Value).ownBlock∧some k_≠(s_.2.2.1 : Value).ownBlock∧some k_≠(.slice Ao33 t676.length co33 : Value).ownBlock∧some k_≠(.slice Ao43 t708.length co43 : Value).ownBlock) (.slice Ao51 t690.length co51) t711)∧(w'.heap[gb665]? = some (.cells #[.int .i64 a1_0,.slice A1_1 l1_1.length c1_1] 25 (0,0)))∧(w'.heap[gb680]? = some (.cells #[.int .i64 t675,.slice Ao33 t676.length co33] 30 (0,0)))∧(w'.heap[gb688]? = some (.cells #[.int .i64 t684,.slice Ao43 t708.length co43] 30 (0,0)))∧(w'.heap[gb694]? = some (.cells #[.int .i64 t689,.slice Ao51 t690.length co51] 30 (0,0)))∧(w'.heap[s_.2.2.2]? = some (.cells #[.int .i64 0,.slice none 0 0] 30 (0,0)))∧(w.heap.size ≤ s_.2.2.2)∧(w.heap.size ≤ s_.2.2.2)∧(gb665≠s_.2.2.2)∧(s_.2.2.2≠gb665)∧(gb680≠s_.2.2.2)∧(s_.2.2.2≠gb680)∧(gb688≠s_.2.2.2)∧(s_.2.2.2≠gb688)∧(gb694≠s_.2.2.2)∧(s_.2.2.2≠gb694)∧(Below w.heap.size w w')) ?_ ?_
             rotate_left
             ·intro hCont
              refine two_ (i:=1) (j:=11) (Ni:=some 108) (Nj:=some 21) #[true,true,true,false,true,true,true,false,false,false,false,false,false,false] #[true,false,true,false,true,true,true,false,false,false,false,true,false,false] rfl rfl rfl rfl (two_of HT_.out (by kernel_rfl)) (by decide) (by decide) (fun K hK => ?_) (fun K hK => ?_)
              ·skip
               refine goes_ Tryd.func19 (by kernel_rfl) rfl #[.slice A0 l0.length c0] (by rfl) rfl rfl (by (try simp only [List.map_toArray,List.map_cons,List.map_nil]);first|done|rfl|(simp only [List.length_drop,List.length_take];rfl)) ?_
               with_reducible refine (laws_toStringS.calls kj78 _ _ l0 t713 _ ?side1 ?side2 A123.out).mono ?_
               (case side1 => repeat (first|exact (Kd.C_below HR0.out HB.out)|(with_reducible first|refine Kd.C_alloc ?_ _|refine Kd.C_drewN ?_ _|refine Kd.C_drew ?_)))
               (case side2 => exact HC0.out)
               rintro e w135 ⟨v714,rfl,ho0,hb⟩
               refine ⟨_,rfl,?_⟩
               have n0_:=am (Kd.R_below (kup HO_681001.out) hb)
               have n1_:=am (Kd.R_below (kup HO_689001.out) hb)
               have n2_:=am (Kd.R_below (kup HO_695001.out) hb)
               have n3_:=am (Kd.R_lower ho0 (below_size (lup HB.out)))
               have n4_:=am (blk_below (bup BK665.out) hb)
               have n5_:=am (blk_below (bup BK680.out) hb)
               have n6_:=am (blk_below (bup BK688.out) hb)
               have n7_:=am (blk_below (bup BK694.out) hb)
               have n8_:=am (below_step (lup HB.out) hb)
               clear HO_681001
               clear HO_689001
               clear HO_695001
               clear BK665
               clear BK680
               clear BK688
               clear BK694
               clear HB
               have HO_681001:=n0_
               have HO_689001:=n1_
               have HO_695001:=n2_
               have HO715:=n3_
               have BK665:=n4_
               have BK680:=n5_
               have BK688:=n6_
               have BK694:=n7_
               have HB:=n8_
               clear n0_ n1_ n2_ n3_ n4_ n5_ n6_ n7_ n8_
               (try clear hb)
               (try clear hb2)
               (try clear hk)
               (try clear hi)
               (try clear ho0)
               refine hK.out _ _ ⟨(blk_cell BK665.out 0).trans rfl,(blk_cell BK665.out 1).trans rfl⟩ (fun hHeld => ?_)
               clear hK K
               refine norm_ (a':=?_) ?_ ?_
               rotate_left
               ·show Act.put _ (some 108) _ = _
                simp only [Act.put,List.setIfInBounds_toArray,List.set_cons_zero,List.set_cons_succ,i64_w,i32_w]
                rfl
               refine two_ (i:=3) (j:=11) (Ni:=some 110) (Nj:=some 21) #[true,true,true,true,true,true,true,false,false,false,false,false,false,false] #[true,true,true,false,true,true,true,false,false,false,false,true,false,false] rfl rfl rfl rfl (two_of HT_.out (by kernel_rfl)) (by decide) (by decide) (fun K hK => ?_) (fun K hK => ?_)
               ·skip
                refine goes_ Tryd.func20 (by kernel_rfl) rfl #[.agg #[.int .i64 a1_0,.slice A1_1 l1_1.length c1_1]] (by rfl) rfl rfl (by (try simp only [List.map_toArray,List.map_cons,List.map_nil]);first|done|rfl|(simp only [List.length_drop,List.length_take];rfl)) ?_
                with_reducible refine (laws_toNursery.calls kj78 a1_0 _ _ l1_1 t716 t717 _ ?side1 ?side2 A124.out).mono ?_
                (case side1 => repeat (first|exact (Kd.C_below HR1_1.out HB.out)|(with_reducible first|refine Kd.C_alloc ?_ _|refine Kd.C_drewN ?_ _|refine Kd.C_drew ?_)))
                (case side2 => exact HC1_1.out)
                rintro e w136 ⟨v718,rfl,ho0,hb⟩
                refine ⟨_,rfl,?_⟩
                have n0_:=am (Kd.R_elder' (kup HO_681001.out) (Kd.R_base ho0) hb)
                have n1_:=am (Kd.R_elder' (kup HO_689001.out) (Kd.R_base ho0) hb)
                have n2_:=am (Kd.R_elder' (kup HO_695001.out) (Kd.R_base ho0) hb)
                have n3_:=am (Kd.R_below (kup HO715.out) hb)
                have n4_:=am (Kd.R_lower (Kd.R_new' (Kd.R_new' (Kd.R_new' ho0 (Kd.R_lt (kup HO_681001.out))) (Kd.R_lt (kup HO_689001.out))) (Kd.R_lt (kup HO_695001.out))) (below_size (lup HB.out)))
                have n5_:=am (blk_below (bup BK665.out) hb)
                have n6_:=am (blk_below (bup BK680.out) hb)
                have n7_:=am (blk_below (bup BK688.out) hb)
                have n8_:=am (blk_below (bup BK694.out) hb)
                have n9_:=am (below_step (lup HB.out) hb)
                clear HO_681001
                clear HO_689001
                clear HO_695001
                clear HO715
                clear BK665
                clear BK680
                clear BK688
                clear BK694
                clear HB
                have HO_681001:=n0_
                have HO_689001:=n1_
                have HO_695001:=n2_
                have HO715:=n3_
                have HO719:=n4_
                have BK665:=n5_
                have BK680:=n6_
                have BK688:=n7_
                have BK694:=n8_
                have HB:=n9_
                clear n0_ n1_ n2_ n3_ n4_ n5_ n6_ n7_ n8_ n9_
                (try clear hb)
                (try clear hb2)
                (try clear hk)
                (try clear hi)
                (try clear ho0)
                obtain ⟨Ao137,co137,eo137⟩:=Kd.R_slice HO715.out
                (first|subst eo137|(injection eo137 with f1_ f2_ f3_;have f4_:=f1_.symm;have f5_:=f3_.symm;clear f1_ f2_ f3_;subst f4_;subst f5_))
                obtain ⟨Ao138,co138,eo138⟩:=Kd.R_slice HO719.out
                (first|subst eo138|(injection eo138 with f1_ f2_ f3_;have f4_:=f1_.symm;have f5_:=f3_.symm;clear f1_ f2_ f3_;subst f4_;subst f5_))
                refine hK.out _ _ ⟨(blk_cell BK665.out 0).trans rfl,(blk_cell BK665.out 1).trans rfl⟩ (fun hHeld => ?_)
                clear hK K
                refine norm_ (a':=?_) ?_ ?_
                rotate_left
                ·show Act.put _ (some 110) _ = _
                 simp only [Act.put,List.setIfInBounds_toArray,List.set_cons_zero,List.set_cons_succ,i64_w,i32_w]
                 rfl
                refine two_ (i:=7) (j:=11) (Ni:=some 114) (Nj:=some 21) #[true,true,true,true,true,true,true,true,false,false,false,false,false,false] #[true,true,true,true,true,true,true,false,false,false,false,true,false,false] rfl rfl rfl rfl (two_of HT_.out (by kernel_rfl)) (by decide) (by decide) (fun K hK => ?_) (fun K hK => ?_)
                ·skip
                 refine goes_ Tryd.func42 (by kernel_rfl) rfl #[.slice Ao137 t713.length co137,.agg #[.int .i64 t716,.slice Ao138 t717.length co138],.int .i64 a2,.int .i64 a3,.int .i64 a4] (by rfl) rfl rfl (by (try simp only [List.map_toArray,List.map_cons,List.map_nil]);first|done|rfl|(simp only [List.length_drop,List.length_take];rfl)) ?_
                 with_reducible refine (impl_YoungSet.calls kj78 _ _ t713 t716 _ _ t717 a2 a3 a4 t720 t721 t724 _ ?side1 ?side2 ?side3 ?side4 A125.out).mono ?_
                 (case side1 => repeat (first|exact (Kd.R_reads' HO715.out).2.2|(with_reducible first|refine Kd.C_alloc ?_ _|refine Kd.C_drewN ?_ _|refine Kd.C_drew ?_)))
                 (case side2 => exact (Kd.R_reads' HO715.out).2.1)
                 (case side3 => repeat (first|exact (Kd.R_reads' HO719.out).2.2|(with_reducible first|refine Kd.C_alloc ?_ _|refine Kd.C_drewN ?_ _|refine Kd.C_drew ?_)))
                 (case side4 => exact (Kd.R_reads' HO719.out).2.1)
                 rintro e w139 ⟨v722,rfl,ho0,hb⟩
                 refine ⟨_,rfl,?_⟩
                 have n0_:=am (Kd.R_elder' (kup HO_681001.out) (Kd.R_base ho0) hb)
                 have n1_:=am (Kd.R_elder' (kup HO_689001.out) (Kd.R_base ho0) hb)
                 have n2_:=am (Kd.R_elder' (kup HO_695001.out) (Kd.R_base ho0) hb)
                 have n3_:=am (Kd.R_below (kup HO715.out) hb)
                 have n4_:=am (Kd.R_elder' (kup HO719.out) (Kd.R_base ho0) hb)
                 have n5_:=am (Kd.R_lower (Kd.R_new' (Kd.R_new' (Kd.R_new' (Kd.R_new' ho0 (Kd.R_lt (kup HO_681001.out))) (Kd.R_lt (kup HO_689001.out))) (Kd.R_lt (kup HO_695001.out))) (Kd.R_lt (kup HO719.out))) (below_size (lup HB.out)))
                 have n6_:=am (blk_below (bup BK665.out) hb)
                 have n7_:=am (blk_below (bup BK680.out) hb)
                 have n8_:=am (blk_below (bup BK688.out) hb)
                 have n9_:=am (blk_below (bup BK694.out) hb)
                 have n10_:=am (below_step (lup HB.out) hb)
                 clear HO_681001
                 clear HO_689001
                 clear HO_695001
                 clear HO715
                 clear HO719
                 clear BK665
                 clear BK680
                 clear BK688
                 clear BK694
                 clear HB
                 have HO_681001:=n0_
                 have HO_689001:=n1_
                 have HO_695001:=n2_
                 have HO715:=n3_
                 have HO719:=n4_
                 have HO723:=n5_
                 have BK665:=n6_
                 have BK680:=n7_
                 have BK688:=n8_
                 have BK694:=n9_
                 have HB:=n10_
                 clear n0_ n1_ n2_ n3_ n4_ n5_ n6_ n7_ n8_ n9_ n10_
                 (try clear hb)
                 (try clear hb2)
                 (try clear hk)
                 (try clear hi)
                 (try clear ho0)
                 refine hK.out _ _ ⟨(blk_cell BK665.out 0).trans rfl,(blk_cell BK665.out 1).trans rfl⟩ (fun hHeld => ?_)
                 clear hK K
                 refine norm_ (a':=?_) ?_ ?_
                 rotate_left
                 ·show Act.put _ (some 114) _ = _
                  simp only [Act.put,List.setIfInBounds_toArray,List.set_cons_zero,List.set_cons_succ,i64_w,i32_w]
                  rfl
                 refine pure_ (i:=8) (N:=some 106) (v:=?_) (a':=?_) #[true,true,true,true,true,true,true,true,true,false,false,false,false,false] rfl rfl (any_of HT_.out (by kernel_rfl)) (fun _ _ _ h => h) (Or.inl ⟨by rfl,?_⟩) ?_ ?_
                 rotate_left
                 ·intro w'
                  go_simp
                  with_reducible rfl
                 rotate_left
                 ·simp only [Act.put,List.setIfInBounds_toArray,List.set_cons_zero,List.set_cons_succ,i64_w,i32_w]
                  rfl
                 refine pure_ (i:=9) (N:=some 115) (v:=?_) (a':=?_) #[true,true,true,true,true,true,true,true,true,true,false,false,false,false] rfl rfl (any_of HT_.out (by kernel_rfl)) (fun _ _ _ h => h) (Or.inl ⟨by rfl,?_⟩) ?_ ?_
                 rotate_left
                 ·intro w'
                  go_simp
                  with_reducible rfl
                 rotate_left
                 ·simp only [Act.put,List.setIfInBounds_toArray,List.set_cons_zero,List.set_cons_succ,i64_w,i32_w]
                  rfl
                 refine pure_ (i:=10) (N:=some 116) (v:=?_) (a':=?_) #[true,true,true,true,true,true,true,true,true,true,true,false,false,false] rfl rfl (any_of HT_.out (by kernel_rfl)) (fun _ _ _ h => h) (Or.inl ⟨by rfl,?_⟩) ?_ ?_
                 rotate_left
                 ·intro w'
                  go_simp
                  with_reducible rfl
                 rotate_left
                 ·simp only [Act.put,List.setIfInBounds_toArray,List.set_cons_zero,List.set_cons_succ,i64_w,i32_w]
                  rfl
                 refine one_ (i:=11) (N:=some 21) #[true,true,true,true,true,true,true,true,true,true,true,true,false,false] rfl rfl (one_of HT_.out (by kernel_rfl)) (by decide) (fun K hK => ?_)
                 refine box_step ?hg (N:=21) ?hd (cs:=#[.int .i64 0,.slice none 0 0]) (t:=30) ?hr ?_;(case hd => rfl);(case hg => rfl);(case hr => first|(go_simp;done)|(go_simp;rfl))
                 intro gb725 hg w140 hbox hb
                 have n0_:=am (Kd.R_below (kup HO_681001.out) hb)
                 have n1_:=am (Kd.R_below (kup HO_689001.out) hb)
                 have n2_:=am (Kd.R_below (kup HO_695001.out) hb)
                 have n3_:=am (Kd.R_below (kup HO715.out) hb)
                 have n4_:=am (Kd.R_below (kup HO719.out) hb)
                 have n5_:=am (Kd.R_below (kup HO723.out) hb)
                 have n6_:=am (blk_below (bup BK665.out) hb)
                 have n7_:=am (blk_below (bup BK680.out) hb)
                 have n8_:=am (blk_below (bup BK688.out) hb)
                 have n9_:=am (blk_below (bup BK694.out) hb)
                 have n10_:=am (below_step (lup HB.out) hb)
                 have n11_:=am (hbox)
                 have n12_:=am ((by rw [hg];exact (below_size (lup HB.out)) : w.heap.size ≤ gb725))
                 have n13_:=am ((by rw [hg];exact (below_size (lup HB.out)) : w.heap.size ≤ gb725))
                 have n14_:=am ((by rw [hg];exact Nat.ne_of_lt (blk_lt (bup BK665.out)) : gb665≠gb725))
                 have n15_:=am ((by rw [hg];exact Nat.ne_of_gt (blk_lt (bup BK665.out)) : gb725≠gb665))
                 have n16_:=am ((by rw [hg];exact Nat.ne_of_lt (blk_lt (bup BK680.out)) : gb680≠gb725))
                 have n17_:=am ((by rw [hg];exact Nat.ne_of_gt (blk_lt (bup BK680.out)) : gb725≠gb680))
                 have n18_:=am ((by rw [hg];exact Nat.ne_of_lt (blk_lt (bup BK688.out)) : gb688≠gb725))
                 have n19_:=am ((by rw [hg];exact Nat.ne_of_gt (blk_lt (bup BK688.out)) : gb725≠gb688))
                 have n20_:=am ((by rw [hg];exact Nat.ne_of_lt (blk_lt (bup BK694.out)) : gb694≠gb725))
                 have n21_:=am ((by rw [hg];exact Nat.ne_of_gt (blk_lt (bup BK694.out)) : gb725≠gb694))
                 clear HO_681001
                 clear HO_689001
                 clear HO_695001
                 clear HO715
                 clear HO719
                 clear HO723
                 clear BK665
                 clear BK680
                 clear BK688
                 clear BK694
                 clear HB
                 have HO_681001:=n0_
                 have HO_689001:=n1_
                 have HO_695001:=n2_
                 have HO715:=n3_
                 have HO719:=n4_
                 have HO723:=n5_
                 have BK665:=n6_
                 have BK680:=n7_
                 have BK688:=n8_
                 have BK694:=n9_
                 have HB:=n10_
                 have BK725:=n11_
                 have GW725:=n12_
                 have GE725:=n13_
                 have NB665_725:=n14_
                 have NB725_665:=n15_
                 have NB680_725:=n16_
                 have NB725_680:=n17_
                 have NB688_725:=n18_
                 have NB725_688:=n19_
                 have NB694_725:=n20_
                 have NB725_694:=n21_
                 clear n0_ n1_ n2_ n3_ n4_ n5_ n6_ n7_ n8_ n9_ n10_ n11_ n12_ n13_ n14_ n15_ n16_ n17_ n18_ n19_ n20_ n21_
                 clear hb hbox hg
                 refine hK.out _ _ ⟨(blk_cell BK665.out 0).trans rfl,(blk_cell BK665.out 1).trans rfl⟩ (fun hHeld => ?_)
                 clear hK K
                 refine norm_ (a':=?_) ?_ ?_
                 rotate_left
                 ·show Act.put _ (some 21) _ = _
                  simp only [Act.put,List.setIfInBounds_toArray,List.set_cons_zero,List.set_cons_succ,i64_w,i32_w]
                  rfl
                 exact norm_ (by simp only [putAll,Act.put,List.setIfInBounds_toArray,List.set_cons_zero,List.set_cons_succ]) (hCont (.slice Ao137 t713.length co137,.slice Ao138 t717.length co138,v722,gb725) _ ⟨hHeld,(kup HO715.out),(kup (Kd.R_mono HO719.out (fun _ hk => ⟨hk.2,⟨hk.1.1.1.2,⟨hk.1.1.2,hk.1.2⟩⟩⟩))),(kup (Kd.R_mono HO723.out (fun _ hk => ⟨hk.2,⟨hk.1.1.1.2,⟨hk.1.1.2,hk.1.2⟩⟩⟩))),(kup (Kd.R_mono HO_681001.out (fun _ hk => ⟨hk.1.2,⟨hk.2,⟨hk.1.1.1,hk.1.1.2⟩⟩⟩))),(kup (Kd.R_mono HO_689001.out (fun _ hk => ⟨hk.1.2,⟨hk.2,⟨hk.1.1.1,hk.1.1.2⟩⟩⟩))),(kup (Kd.R_mono HO_695001.out (fun _ hk => ⟨hk.1.2,⟨hk.2,⟨hk.1.1.1,hk.1.1.2⟩⟩⟩))),(bup BK665.out),(bup BK680.out),(bup BK688.out),(bup BK694.out),(bup BK725.out),GW725.out,GE725.out,NB665_725.out,NB725_665.out,NB680_725.out,NB725_680.out,NB688_725.out,NB725_688.out,NB694_725.out,NB725_694.out,(lup HB.out)⟩)
                ·skip
                 refine box_step ?hg (N:=21) ?hd (cs:=#[.int .i64 0,.slice none 0 0]) (t:=30) ?hr ?_;(case hd => rfl);(case hg => rfl);(case hr => first|(go_simp;done)|(go_simp;rfl))
                 intro gb725 hg w137 hbox hb
                 have n0_:=am (Kd.R_below (kup HO_681001.out) hb)
                 have n1_:=am (Kd.R_below (kup HO_689001.out) hb)
                 have n2_:=am (Kd.R_below (kup HO_695001.out) hb)
                 have n3_:=am (Kd.R_below (kup HO715.out) hb)
                 have n4_:=am (Kd.R_below (kup HO719.out) hb)
                 have n5_:=am (blk_below (bup BK665.out) hb)
                 have n6_:=am (blk_below (bup BK680.out) hb)
                 have n7_:=am (blk_below (bup BK688.out) hb)
                 have n8_:=am (blk_below (bup BK694.out) hb)
                 have n9_:=am (below_step (lup HB.out) hb)
                 have n10_:=am (hbox)
                 have n11_:=am ((by rw [hg];exact (below_size (lup HB.out)) : w.heap.size ≤ gb725))
                 have n12_:=am ((by rw [hg];exact (below_size (lup HB.out)) : w.heap.size ≤ gb725))
                 have n13_:=am ((by rw [hg];exact Nat.ne_of_lt (blk_lt (bup BK665.out)) : gb665≠gb725))
                 have n14_:=am ((by rw [hg];exact Nat.ne_of_gt (blk_lt (bup BK665.out)) : gb725≠gb665))
                 have n15_:=am ((by rw [hg];exact Nat.ne_of_lt (blk_lt (bup BK680.out)) : gb680≠gb725))
                 have n16_:=am ((by rw [hg];exact Nat.ne_of_gt (blk_lt (bup BK680.out)) : gb725≠gb680))
                 have n17_:=am ((by rw [hg];exact Nat.ne_of_lt (blk_lt (bup BK688.out)) : gb688≠gb725))
                 have n18_:=am ((by rw [hg];exact Nat.ne_of_gt (blk_lt (bup BK688.out)) : gb725≠gb688))
                 have n19_:=am ((by rw [hg];exact Nat.ne_of_lt (blk_lt (bup BK694.out)) : gb694≠gb725))
                 have n20_:=am ((by rw [hg];exact Nat.ne_of_gt (blk_lt (bup BK694.out)) : gb725≠gb694))
                 clear HO_681001
                 clear HO_689001
                 clear HO_695001
                 clear HO715
                 clear HO719
                 clear BK665
                 clear BK680
                 clear BK688
                 clear BK694
                 clear HB
                 have HO_681001:=n0_
                 have HO_689001:=n1_
                 have HO_695001:=n2_
                 have HO715:=n3_
                 have HO719:=n4_
                 have BK665:=n5_
                 have BK680:=n6_
                 have BK688:=n7_
                 have BK694:=n8_
                 have HB:=n9_
                 have BK725:=n10_
                 have GW725:=n11_
                 have GE725:=n12_
                 have NB665_725:=n13_
                 have NB725_665:=n14_
                 have NB680_725:=n15_
                 have NB725_680:=n16_
                 have NB688_725:=n17_
                 have NB725_688:=n18_
                 have NB694_725:=n19_
                 have NB725_694:=n20_
                 clear n0_ n1_ n2_ n3_ n4_ n5_ n6_ n7_ n8_ n9_ n10_ n11_ n12_ n13_ n14_ n15_ n16_ n17_ n18_ n19_ n20_
                 clear hb hbox hg
                 obtain ⟨Ao138,co138,eo138⟩:=Kd.R_slice HO715.out
                 (first|subst eo138|(injection eo138 with f1_ f2_ f3_;have f4_:=f1_.symm;have f5_:=f3_.symm;clear f1_ f2_ f3_;subst f4_;subst f5_))
                 obtain ⟨Ao139,co139,eo139⟩:=Kd.R_slice HO719.out
                 (first|subst eo139|(injection eo139 with f1_ f2_ f3_;have f4_:=f1_.symm;have f5_:=f3_.symm;clear f1_ f2_ f3_;subst f4_;subst f5_))
                 refine hK.out _ _ ⟨(blk_cell BK665.out 0).trans rfl,(blk_cell BK665.out 1).trans rfl⟩ (fun hHeld => ?_)
                 clear hK K
                 refine norm_ (a':=?_) ?_ ?_
                 rotate_left
                 ·show Act.put _ (some 21) _ = _
                  simp only [Act.put,List.setIfInBounds_toArray,List.set_cons_zero,List.set_cons_succ,i64_w,i32_w]
                  rfl
                 refine one_ (i:=7) (N:=some 114) #[true,true,true,true,true,true,true,true,false,false,false,true,false,false] rfl rfl (one_of HT_.out (by kernel_rfl)) (by decide) (fun K hK => ?_)
                 refine goes_ Tryd.func42 (by kernel_rfl) rfl #[.slice Ao138 t713.length co138,.agg #[.int .i64 t716,.slice Ao139 t717.length co139],.int .i64 a2,.int .i64 a3,.int .i64 a4] (by rfl) rfl rfl (by (try simp only [List.map_toArray,List.map_cons,List.map_nil]);first|done|rfl|(simp only [List.length_drop,List.length_take];rfl)) ?_
                 with_reducible refine (impl_YoungSet.calls kj78 _ _ t713 t716 _ _ t717 a2 a3 a4 t720 t721 t724 _ ?side1 ?side2 ?side3 ?side4 A125.out).mono ?_
                 (case side1 => repeat (first|exact (Kd.R_reads' HO715.out).2.2|(with_reducible first|refine Kd.C_alloc ?_ _|refine Kd.C_drewN ?_ _|refine Kd.C_drew ?_)))
                 (case side2 => exact (Kd.R_reads' HO715.out).2.1)
                 (case side3 => repeat (first|exact (Kd.R_reads' HO719.out).2.2|(with_reducible first|refine Kd.C_alloc ?_ _|refine Kd.C_drewN ?_ _|refine Kd.C_drew ?_)))
                 (case side4 => exact (Kd.R_reads' HO719.out).2.1)
                 rintro e w140 ⟨v722,rfl,ho0,hb⟩
                 refine ⟨_,rfl,?_⟩
                 have n0_:=am (Kd.R_elder' (kup HO_681001.out) (Kd.R_base ho0) hb)
                 have n1_:=am (Kd.R_elder' (kup HO_689001.out) (Kd.R_base ho0) hb)
                 have n2_:=am (Kd.R_elder' (kup HO_695001.out) (Kd.R_base ho0) hb)
                 have n3_:=am (Kd.R_below (kup HO715.out) hb)
                 have n4_:=am (Kd.R_elder' (kup HO719.out) (Kd.R_base ho0) hb)
                 have n5_:=am (Kd.R_lower (Kd.R_new' (Kd.R_new' (Kd.R_new' (Kd.R_new' ho0 (Kd.R_lt (kup HO_681001.out))) (Kd.R_lt (kup HO_689001.out))) (Kd.R_lt (kup HO_695001.out))) (Kd.R_lt (kup HO719.out))) (below_size (lup HB.out)))
                 have n6_:=am (blk_below (bup BK665.out) hb)
                 have n7_:=am (blk_below (bup BK680.out) hb)
                 have n8_:=am (blk_below (bup BK688.out) hb)
                 have n9_:=am (blk_below (bup BK694.out) hb)
                 have n10_:=am (blk_below (bup BK725.out) hb)
                 have n11_:=am (below_step (lup HB.out) hb)
                 clear HO_681001
                 clear HO_689001
                 clear HO_695001
                 clear HO715
                 clear HO719
                 clear BK665
                 clear BK680
                 clear BK688
                 clear BK694
                 clear BK725
                 clear HB
                 have HO_681001:=n0_
                 have HO_689001:=n1_
                 have HO_695001:=n2_
                 have HO715:=n3_
                 have HO719:=n4_
                 have HO723:=n5_
                 have BK665:=n6_
                 have BK680:=n7_
                 have BK688:=n8_
                 have BK694:=n9_
                 have BK725:=n10_
                 have HB:=n11_
                 clear n0_ n1_ n2_ n3_ n4_ n5_ n6_ n7_ n8_ n9_ n10_ n11_
                 (try clear hb)
                 (try clear hb2)
                 (try clear hk)
                 (try clear hi)
                 (try clear ho0)
                 refine hK.out _ _ ⟨(blk_cell BK665.out 0).trans rfl,(blk_cell BK665.out 1).trans rfl⟩ (fun hHeld => ?_)
                 clear hK K
                 refine norm_ (a':=?_) ?_ ?_
                 rotate_left
                 ·show Act.put _ (some 114) _ = _
                  simp only [Act.put,List.setIfInBounds_toArray,List.set_cons_zero,List.set_cons_succ,i64_w,i32_w]
                  rfl
                 refine pure_ (i:=8) (N:=some 106) (v:=?_) (a':=?_) #[true,true,true,true,true,true,true,true,true,false,false,true,false,false] rfl rfl (any_of HT_.out (by kernel_rfl)) (fun _ _ _ h => h) (Or.inl ⟨by rfl,?_⟩) ?_ ?_
                 rotate_left
                 ·intro w'
                  go_simp
                  with_reducible rfl
                 rotate_left
                 ·simp only [Act.put,List.setIfInBounds_toArray,List.set_cons_zero,List.set_cons_succ,i64_w,i32_w]
                  rfl
                 refine pure_ (i:=9) (N:=some 115) (v:=?_) (a':=?_) #[true,true,true,true,true,true,true,true,true,true,false,true,false,false] rfl rfl (any_of HT_.out (by kernel_rfl)) (fun _ _ _ h => h) (Or.inl ⟨by rfl,?_⟩) ?_ ?_
                 rotate_left
                 ·intro w'
                  go_simp
                  with_reducible rfl
                 rotate_left
                 ·simp only [Act.put,List.setIfInBounds_toArray,List.set_cons_zero,List.set_cons_succ,i64_w,i32_w]
                  rfl
                 refine pure_ (i:=10) (N:=some 116) (v:=?_) (a':=?_) #[true,true,true,true,true,true,true,true,true,true,true,true,false,false] rfl rfl (any_of HT_.out (by kernel_rfl)) (fun _ _ _ h => h) (Or.inl ⟨by rfl,?_⟩) ?_ ?_
                 rotate_left
                 ·intro w'
                  go_simp
                  with_reducible rfl
                 rotate_left
                 ·simp only [Act.put,List.setIfInBounds_toArray,List.set_cons_zero,List.set_cons_succ,i64_w,i32_w]
                  rfl
                 exact norm_ (by simp only [putAll,Act.put,List.setIfInBounds_toArray,List.set_cons_zero,List.set_cons_succ]) (hCont (.slice Ao138 t713.length co138,.slice Ao139 t717.length co139,v722,gb725) _ ⟨hHeld,(kup HO715.out),(kup (Kd.R_mono HO719.out (fun _ hk => ⟨hk.2,⟨hk.1.1.1.2,⟨hk.1.1.2,hk.1.2⟩⟩⟩))),(kup (Kd.R_mono HO723.out (fun _ hk => ⟨hk.2,⟨hk.1.1.1.2,⟨hk.1.1.2,hk.1.2⟩⟩⟩))),(kup (Kd.R_mono HO_681001.out (fun _ hk => ⟨hk.1.2,⟨hk.2,⟨hk.1.1.1,hk.1.1.2⟩⟩⟩))),(kup (Kd.R_mono HO_689001.out (fun _ hk => ⟨hk.1.2,⟨hk.2,⟨hk.1.1.1,hk.1.1.2⟩⟩⟩))),(kup (Kd.R_mono HO_695001.out (fun _ hk => ⟨hk.1.2,⟨hk.2,⟨hk.1.1.1,hk.1.1.2⟩⟩⟩))),(bup BK665.out),(bup BK680.out),(bup BK688.out),(bup BK694.out),(bup BK725.out),GW725.out,GE725.out,NB665_725.out,NB725_665.out,NB680_725.out,NB725_680.out,NB688_725.out,NB725_688.out,NB694_725.out,NB725_694.out,(lup HB.out)⟩)
               ·skip
                refine box_step ?hg (N:=21) ?hd (cs:=#[.int .i64 0,.slice none 0 0]) (t:=30) ?hr ?_;(case hd => rfl);(case hg => rfl);(case hr => first|(go_simp;done)|(go_simp;rfl))
                intro gb725 hg w136 hbox hb
                have n0_:=am (Kd.R_below (kup HO_681001.out) hb)
                have n1_:=am (Kd.R_below (kup HO_689001.out) hb)
                have n2_:=am (Kd.R_below (kup HO_695001.out) hb)
                have n3_:=am (Kd.R_below (kup HO715.out) hb)
                have n4_:=am (blk_below (bup BK665.out) hb)
                have n5_:=am (blk_below (bup BK680.out) hb)
                have n6_:=am (blk_below (bup BK688.out) hb)
                have n7_:=am (blk_below (bup BK694.out) hb)
                have n8_:=am (below_step (lup HB.out) hb)
                have n9_:=am (hbox)
                have n10_:=am ((by rw [hg];exact (below_size (lup HB.out)) : w.heap.size ≤ gb725))
                have n11_:=am ((by rw [hg];exact (below_size (lup HB.out)) : w.heap.size ≤ gb725))
                have n12_:=am ((by rw [hg];exact Nat.ne_of_lt (blk_lt (bup BK665.out)) : gb665≠gb725))
                have n13_:=am ((by rw [hg];exact Nat.ne_of_gt (blk_lt (bup BK665.out)) : gb725≠gb665))
                have n14_:=am ((by rw [hg];exact Nat.ne_of_lt (blk_lt (bup BK680.out)) : gb680≠gb725))
                have n15_:=am ((by rw [hg];exact Nat.ne_of_gt (blk_lt (bup BK680.out)) : gb725≠gb680))
                have n16_:=am ((by rw [hg];exact Nat.ne_of_lt (blk_lt (bup BK688.out)) : gb688≠gb725))
                have n17_:=am ((by rw [hg];exact Nat.ne_of_gt (blk_lt (bup BK688.out)) : gb725≠gb688))
                have n18_:=am ((by rw [hg];exact Nat.ne_of_lt (blk_lt (bup BK694.out)) : gb694≠gb725))
                have n19_:=am ((by rw [hg];exact Nat.ne_of_gt (blk_lt (bup BK694.out)) : gb725≠gb694))
                clear HO_681001
                clear HO_689001
                clear HO_695001
                clear HO715
                clear BK665
                clear BK680
                clear BK688
                clear BK694
                clear HB
                have HO_681001:=n0_
                have HO_689001:=n1_
                have HO_695001:=n2_
                have HO715:=n3_
                have BK665:=n4_
                have BK680:=n5_
                have BK688:=n6_
                have BK694:=n7_
                have HB:=n8_
                have BK725:=n9_
                have GW725:=n10_
                have GE725:=n11_
                have NB665_725:=n12_
                have NB725_665:=n13_
                have NB680_725:=n14_
                have NB725_680:=n15_
                have NB688_725:=n16_
                have NB725_688:=n17_
                have NB694_725:=n18_
                have NB725_694:=n19_
                clear n0_ n1_ n2_ n3_ n4_ n5_ n6_ n7_ n8_ n9_ n10_ n11_ n12_ n13_ n14_ n15_ n16_ n17_ n18_ n19_
                clear hb hbox hg
                refine hK.out _ _ ⟨(blk_cell BK665.out 0).trans rfl,(blk_cell BK665.out 1).trans rfl⟩ (fun hHeld => ?_)
                clear hK K
                refine norm_ (a':=?_) ?_ ?_
                rotate_left
                ·show Act.put _ (some 21) _ = _
                 simp only [Act.put,List.setIfInBounds_toArray,List.set_cons_zero,List.set_cons_succ,i64_w,i32_w]
                 rfl
                refine one_ (i:=3) (N:=some 110) #[true,true,true,true,true,true,true,false,false,false,false,true,false,false] rfl rfl (one_of HT_.out (by kernel_rfl)) (by decide) (fun K hK => ?_)
                refine goes_ Tryd.func20 (by kernel_rfl) rfl #[.agg #[.int .i64 a1_0,.slice A1_1 l1_1.length c1_1]] (by rfl) rfl rfl (by (try simp only [List.map_toArray,List.map_cons,List.map_nil]);first|done|rfl|(simp only [List.length_drop,List.length_take];rfl)) ?_
                with_reducible refine (laws_toNursery.calls kj78 a1_0 _ _ l1_1 t716 t717 _ ?side1 ?side2 A124.out).mono ?_
                (case side1 => repeat (first|exact (Kd.C_below HR1_1.out HB.out)|(with_reducible first|refine Kd.C_alloc ?_ _|refine Kd.C_drewN ?_ _|refine Kd.C_drew ?_)))
                (case side2 => exact HC1_1.out)
                rintro e w137 ⟨v718,rfl,ho0,hb⟩
                refine ⟨_,rfl,?_⟩
                have n0_:=am (Kd.R_elder' (kup HO_681001.out) (Kd.R_base ho0) hb)
                have n1_:=am (Kd.R_elder' (kup HO_689001.out) (Kd.R_base ho0) hb)
                have n2_:=am (Kd.R_elder' (kup HO_695001.out) (Kd.R_base ho0) hb)
                have n3_:=am (Kd.R_below (kup HO715.out) hb)
                have n4_:=am (Kd.R_lower (Kd.R_new' (Kd.R_new' (Kd.R_new' ho0 (Kd.R_lt (kup HO_681001.out))) (Kd.R_lt (kup HO_689001.out))) (Kd.R_lt (kup HO_695001.out))) (below_size (lup HB.out)))
                have n5_:=am (blk_below (bup BK665.out) hb)
                have n6_:=am (blk_below (bup BK680.out) hb)
                have n7_:=am (blk_below (bup BK688.out) hb)
                have n8_:=am (blk_below (bup BK694.out) hb)
                have n9_:=am (blk_below (bup BK725.out) hb)
                have n10_:=am (below_step (lup HB.out) hb)
                clear HO_681001
                clear HO_689001
                clear HO_695001
                clear HO715
                clear BK665
                clear BK680
                clear BK688
                clear BK694
                clear BK725
                clear HB
                have HO_681001:=n0_
                have HO_689001:=n1_
                have HO_695001:=n2_
                have HO715:=n3_
                have HO719:=n4_
                have BK665:=n5_
                have BK680:=n6_
                have BK688:=n7_
                have BK694:=n8_
                have BK725:=n9_
                have HB:=n10_
                clear n0_ n1_ n2_ n3_ n4_ n5_ n6_ n7_ n8_ n9_ n10_
                (try clear hb)
                (try clear hb2)
                (try clear hk)
                (try clear hi)
                (try clear ho0)
                obtain ⟨Ao138,co138,eo138⟩:=Kd.R_slice HO715.out
                (first|subst eo138|(injection eo138 with f1_ f2_ f3_;have f4_:=f1_.symm;have f5_:=f3_.symm;clear f1_ f2_ f3_;subst f4_;subst f5_))
                obtain ⟨Ao139,co139,eo139⟩:=Kd.R_slice HO719.out
                (first|subst eo139|(injection eo139 with f1_ f2_ f3_;have f4_:=f1_.symm;have f5_:=f3_.symm;clear f1_ f2_ f3_;subst f4_;subst f5_))
                refine hK.out _ _ ⟨(blk_cell BK665.out 0).trans rfl,(blk_cell BK665.out 1).trans rfl⟩ (fun hHeld => ?_)
                clear hK K
                refine norm_ (a':=?_) ?_ ?_
                rotate_left
                ·show Act.put _ (some 110) _ = _
                 simp only [Act.put,List.setIfInBounds_toArray,List.set_cons_zero,List.set_cons_succ,i64_w,i32_w]
                 rfl
                refine one_ (i:=7) (N:=some 114) #[true,true,true,true,true,true,true,true,false,false,false,true,false,false] rfl rfl (one_of HT_.out (by kernel_rfl)) (by decide) (fun K hK => ?_)
                refine goes_ Tryd.func42 (by kernel_rfl) rfl #[.slice Ao138 t713.length co138,.agg #[.int .i64 t716,.slice Ao139 t717.length co139],.int .i64 a2,.int .i64 a3,.int .i64 a4] (by rfl) rfl rfl (by (try simp only [List.map_toArray,List.map_cons,List.map_nil]);first|done|rfl|(simp only [List.length_drop,List.length_take];rfl)) ?_
                with_reducible refine (impl_YoungSet.calls kj78 _ _ t713 t716 _ _ t717 a2 a3 a4 t720 t721 t724 _ ?side1 ?side2 ?side3 ?side4 A125.out).mono ?_
                (case side1 => repeat (first|exact (Kd.R_reads' HO715.out).2.2|(with_reducible first|refine Kd.C_alloc ?_ _|refine Kd.C_drewN ?_ _|refine Kd.C_drew ?_)))
                (case side2 => exact (Kd.R_reads' HO715.out).2.1)
                (case side3 => repeat (first|exact (Kd.R_reads' HO719.out).2.2|(with_reducible first|refine Kd.C_alloc ?_ _|refine Kd.C_drewN ?_ _|refine Kd.C_drew ?_)))
                (case side4 => exact (Kd.R_reads' HO719.out).2.1)
                rintro e w140 ⟨v722,rfl,ho0,hb⟩
                refine ⟨_,rfl,?_⟩
                have n0_:=am (Kd.R_elder' (kup HO_681001.out) (Kd.R_base ho0) hb)
                have n1_:=am (Kd.R_elder' (kup HO_689001.out) (Kd.R_base ho0) hb)
                have n2_:=am (Kd.R_elder' (kup HO_695001.out) (Kd.R_base ho0) hb)
                have n3_:=am (Kd.R_below (kup HO715.out) hb)
                have n4_:=am (Kd.R_elder' (kup HO719.out) (Kd.R_base ho0) hb)
                have n5_:=am (Kd.R_lower (Kd.R_new' (Kd.R_new' (Kd.R_new' (Kd.R_new' ho0 (Kd.R_lt (kup HO_681001.out))) (Kd.R_lt (kup HO_689001.out))) (Kd.R_lt (kup HO_695001.out))) (Kd.R_lt (kup HO719.out))) (below_size (lup HB.out)))
                have n6_:=am (blk_below (bup BK665.out) hb)
                have n7_:=am (blk_below (bup BK680.out) hb)
                have n8_:=am (blk_below (bup BK688.out) hb)
                have n9_:=am (blk_below (bup BK694.out) hb)
                have n10_:=am (blk_below (bup BK725.out) hb)
                have n11_:=am (below_step (lup HB.out) hb)
                clear HO_681001
                clear HO_689001
                clear HO_695001
                clear HO715
                clear HO719
                clear BK665
                clear BK680
                clear BK688
                clear BK694
                clear BK725
                clear HB
                have HO_681001:=n0_
                have HO_689001:=n1_
                have HO_695001:=n2_
                have HO715:=n3_
                have HO719:=n4_
                have HO723:=n5_
                have BK665:=n6_
                have BK680:=n7_
                have BK688:=n8_
                have BK694:=n9_
                have BK725:=n10_
                have HB:=n11_
                clear n0_ n1_ n2_ n3_ n4_ n5_ n6_ n7_ n8_ n9_ n10_ n11_
                (try clear hb)
                (try clear hb2)
                (try clear hk)
                (try clear hi)
                (try clear ho0)
                refine hK.out _ _ ⟨(blk_cell BK665.out 0).trans rfl,(blk_cell BK665.out 1).trans rfl⟩ (fun hHeld => ?_)
                clear hK K
                refine norm_ (a':=?_) ?_ ?_
                rotate_left
                ·show Act.put _ (some 114) _ = _
                 simp only [Act.put,List.setIfInBounds_toArray,List.set_cons_zero,List.set_cons_succ,i64_w,i32_w]
                 rfl
                refine pure_ (i:=8) (N:=some 106) (v:=?_) (a':=?_) #[true,true,true,true,true,true,true,true,true,false,false,true,false,false] rfl rfl (any_of HT_.out (by kernel_rfl)) (fun _ _ _ h => h) (Or.inl ⟨by rfl,?_⟩) ?_ ?_
                rotate_left
                ·intro w'
                 go_simp
                 with_reducible rfl
                rotate_left
                ·simp only [Act.put,List.setIfInBounds_toArray,List.set_cons_zero,List.set_cons_succ,i64_w,i32_w]
                 rfl
                refine pure_ (i:=9) (N:=some 115) (v:=?_) (a':=?_) #[true,true,true,true,true,true,true,true,true,true,false,true,false,false] rfl rfl (any_of HT_.out (by kernel_rfl)) (fun _ _ _ h => h) (Or.inl ⟨by rfl,?_⟩) ?_ ?_
                rotate_left
                ·intro w'
                 go_simp
                 with_reducible rfl
                rotate_left
                ·simp only [Act.put,List.setIfInBounds_toArray,List.set_cons_zero,List.set_cons_succ,i64_w,i32_w]
                 rfl
                refine pure_ (i:=10) (N:=some 116) (v:=?_) (a':=?_) #[true,true,true,true,true,true,true,true,true,true,true,true,false,false] rfl rfl (any_of HT_.out (by kernel_rfl)) (fun _ _ _ h => h) (Or.inl ⟨by rfl,?_⟩) ?_ ?_
                rotate_left
                ·intro w'
                 go_simp
                 with_reducible rfl
                rotate_left
                ·simp only [Act.put,List.setIfInBounds_toArray,List.set_cons_zero,List.set_cons_succ,i64_w,i32_w]
                 rfl
                exact norm_ (by simp only [putAll,Act.put,List.setIfInBounds_toArray,List.set_cons_zero,List.set_cons_succ]) (hCont (.slice Ao138 t713.length co138,.slice Ao139 t717.length co139,v722,gb725) _ ⟨hHeld,(kup HO715.out),(kup (Kd.R_mono HO719.out (fun _ hk => ⟨hk.2,⟨hk.1.1.1.2,⟨hk.1.1.2,hk.1.2⟩⟩⟩))),(kup (Kd.R_mono HO723.out (fun _ hk => ⟨hk.2,⟨hk.1.1.1.2,⟨hk.1.1.2,hk.1.2⟩⟩⟩))),(kup (Kd.R_mono HO_681001.out (fun _ hk => ⟨hk.1.2,⟨hk.2,⟨hk.1.1.1,hk.1.1.2⟩⟩⟩))),(kup (Kd.R_mono HO_689001.out (fun _ hk => ⟨hk.1.2,⟨hk.2,⟨hk.1.1.1,hk.1.1.2⟩⟩⟩))),(kup (Kd.R_mono HO_695001.out (fun _ hk => ⟨hk.1.2,⟨hk.2,⟨hk.1.1.1,hk.1.1.2⟩⟩⟩))),(bup BK665.out),(bup BK680.out),(bup BK688.out),(bup BK694.out),(bup BK725.out),GW725.out,GE725.out,NB665_725.out,NB725_665.out,NB680_725.out,NB725_680.out,NB688_725.out,NB725_688.out,NB694_725.out,NB725_694.out,(lup HB.out)⟩)
              ·skip
               refine box_step ?hg (N:=21) ?hd (cs:=#[.int .i64 0,.slice none 0 0]) (t:=30) ?hr ?_;(case hd => rfl);(case hg => rfl);(case hr => first|(go_simp;done)|(go_simp;rfl))
               intro gb725 hg w135 hbox hb
               have n0_:=am (Kd.R_below (kup HO_681001.out) hb)
               have n1_:=am (Kd.R_below (kup HO_689001.out) hb)
               have n2_:=am (Kd.R_below (kup HO_695001.out) hb)
               have n3_:=am (blk_below (bup BK665.out) hb)
               have n4_:=am (blk_below (bup BK680.out) hb)
               have n5_:=am (blk_below (bup BK688.out) hb)
               have n6_:=am (blk_below (bup BK694.out) hb)
               have n7_:=am (below_step (lup HB.out) hb)
               have n8_:=am (hbox)
               have n9_:=am ((by rw [hg];exact (below_size (lup HB.out)) : w.heap.size ≤ gb725))
               have n10_:=am ((by rw [hg];exact (below_size (lup HB.out)) : w.heap.size ≤ gb725))
               have n11_:=am ((by rw [hg];exact Nat.ne_of_lt (blk_lt (bup BK665.out)) : gb665≠gb725))
               have n12_:=am ((by rw [hg];exact Nat.ne_of_gt (blk_lt (bup BK665.out)) : gb725≠gb665))
               have n13_:=am ((by rw [hg];exact Nat.ne_of_lt (blk_lt (bup BK680.out)) : gb680≠gb725))
               have n14_:=am ((by rw [hg];exact Nat.ne_of_gt (blk_lt (bup BK680.out)) : gb725≠gb680))
               have n15_:=am ((by rw [hg];exact Nat.ne_of_lt (blk_lt (bup BK688.out)) : gb688≠gb725))
               have n16_:=am ((by rw [hg];exact Nat.ne_of_gt (blk_lt (bup BK688.out)) : gb725≠gb688))
               have n17_:=am ((by rw [hg];exact Nat.ne_of_lt (blk_lt (bup BK694.out)) : gb694≠gb725))
               have n18_:=am ((by rw [hg];exact Nat.ne_of_gt (blk_lt (bup BK694.out)) : gb725≠gb694))
               clear HO_681001
               clear HO_689001
               clear HO_695001
               clear BK665
               clear BK680
               clear BK688
               clear BK694
               clear HB
               have HO_681001:=n0_
               have HO_689001:=n1_
               have HO_695001:=n2_
               have BK665:=n3_
               have BK680:=n4_
               have BK688:=n5_
               have BK694:=n6_
               have HB:=n7_
               have BK725:=n8_
               have GW725:=n9_
               have GE725:=n10_
               have NB665_725:=n11_
               have NB725_665:=n12_
               have NB680_725:=n13_
               have NB725_680:=n14_
               have NB688_725:=n15_
               have NB725_688:=n16_
               have NB694_725:=n17_
               have NB725_694:=n18_
               clear n0_ n1_ n2_ n3_ n4_ n5_ n6_ n7_ n8_ n9_ n10_ n11_ n12_ n13_ n14_ n15_ n16_ n17_ n18_
               clear hb hbox hg
               refine hK.out _ _ ⟨(blk_cell BK665.out 0).trans rfl,(blk_cell BK665.out 1).trans rfl⟩ (fun hHeld => ?_)
               clear hK K
               refine norm_ (a':=?_) ?_ ?_
               rotate_left
               ·show Act.put _ (some 21) _ = _
                simp only [Act.put,List.setIfInBounds_toArray,List.set_cons_zero,List.set_cons_succ,i64_w,i32_w]
                rfl
               refine one_ (i:=1) (N:=some 108) #[true,true,true,false,true,true,true,false,false,false,false,true,false,false] rfl rfl (one_of HT_.out (by kernel_rfl)) (by decide) (fun K hK => ?_)
               refine goes_ Tryd.func19 (by kernel_rfl) rfl #[.slice A0 l0.length c0] (by rfl) rfl rfl (by (try simp only [List.map_toArray,List.map_cons,List.map_nil]);first|done|rfl|(simp only [List.length_drop,List.length_take];rfl)) ?_
               with_reducible refine (laws_toStringS.calls kj78 _ _ l0 t713 _ ?side1 ?side2 A123.out).mono ?_
               (case side1 => repeat (first|exact (Kd.C_below HR0.out HB.out)|(with_reducible first|refine Kd.C_alloc ?_ _|refine Kd.C_drewN ?_ _|refine Kd.C_drew ?_)))
               (case side2 => exact HC0.out)
               rintro e w136 ⟨v714,rfl,ho0,hb⟩
               refine ⟨_,rfl,?_⟩
               have n0_:=am (Kd.R_below (kup HO_681001.out) hb)
               have n1_:=am (Kd.R_below (kup HO_689001.out) hb)
               have n2_:=am (Kd.R_below (kup HO_695001.out) hb)
               have n3_:=am (Kd.R_lower ho0 (below_size (lup HB.out)))
               have n4_:=am (blk_below (bup BK665.out) hb)
               have n5_:=am (blk_below (bup BK680.out) hb)
               have n6_:=am (blk_below (bup BK688.out) hb)
               have n7_:=am (blk_below (bup BK694.out) hb)
               have n8_:=am (blk_below (bup BK725.out) hb)
               have n9_:=am (below_step (lup HB.out) hb)
               clear HO_681001
               clear HO_689001
               clear HO_695001
               clear BK665
               clear BK680
               clear BK688
               clear BK694
               clear BK725
               clear HB
               have HO_681001:=n0_
               have HO_689001:=n1_
               have HO_695001:=n2_
               have HO715:=n3_
               have BK665:=n4_
               have BK680:=n5_
               have BK688:=n6_
               have BK694:=n7_
               have BK725:=n8_
               have HB:=n9_
               clear n0_ n1_ n2_ n3_ n4_ n5_ n6_ n7_ n8_ n9_
               (try clear hb)
               (try clear hb2)
               (try clear hk)
               (try clear hi)
               (try clear ho0)
               refine hK.out _ _ ⟨(blk_cell BK665.out 0).trans rfl,(blk_cell BK665.out 1).trans rfl⟩ (fun hHeld => ?_)
               clear hK K
               refine norm_ (a':=?_) ?_ ?_
               rotate_left
               ·show Act.put _ (some 108) _ = _
                simp only [Act.put,List.setIfInBounds_toArray,List.set_cons_zero,List.set_cons_succ,i64_w,i32_w]
                rfl
               refine one_ (i:=3) (N:=some 110) #[true,true,true,true,true,true,true,false,false,false,false,true,false,false] rfl rfl (one_of HT_.out (by kernel_rfl)) (by decide) (fun K hK => ?_)
               refine goes_ Tryd.func20 (by kernel_rfl) rfl #[.agg #[.int .i64 a1_0,.slice A1_1 l1_1.length c1_1]] (by rfl) rfl rfl (by (try simp only [List.map_toArray,List.map_cons,List.map_nil]);first|done|rfl|(simp only [List.length_drop,List.length_take];rfl)) ?_
               with_reducible refine (laws_toNursery.calls kj78 a1_0 _ _ l1_1 t716 t717 _ ?side1 ?side2 A124.out).mono ?_
               (case side1 => repeat (first|exact (Kd.C_below HR1_1.out HB.out)|(with_reducible first|refine Kd.C_alloc ?_ _|refine Kd.C_drewN ?_ _|refine Kd.C_drew ?_)))
               (case side2 => exact HC1_1.out)
               rintro e w137 ⟨v718,rfl,ho0,hb⟩
               refine ⟨_,rfl,?_⟩
               have n0_:=am (Kd.R_elder' (kup HO_681001.out) (Kd.R_base ho0) hb)
               have n1_:=am (Kd.R_elder' (kup HO_689001.out) (Kd.R_base ho0) hb)
               have n2_:=am (Kd.R_elder' (kup HO_695001.out) (Kd.R_base ho0) hb)
               have n3_:=am (Kd.R_below (kup HO715.out) hb)
               have n4_:=am (Kd.R_lower (Kd.R_new' (Kd.R_new' (Kd.R_new' ho0 (Kd.R_lt (kup HO_681001.out))) (Kd.R_lt (kup HO_689001.out))) (Kd.R_lt (kup HO_695001.out))) (below_size (lup HB.out)))
               have n5_:=am (blk_below (bup BK665.out) hb)
               have n6_:=am (blk_below (bup BK680.out) hb)
               have n7_:=am (blk_below (bup BK688.out) hb)
               have n8_:=am (blk_below (bup BK694.out) hb)
               have n9_:=am (blk_below (bup BK725.out) hb)
               have n10_:=am (below_step (lup HB.out) hb)
               clear HO_681001
               clear HO_689001
               clear HO_695001
               clear HO715
               clear BK665
               clear BK680
               clear BK688
               clear BK694
               clear BK725
               clear HB
               have HO_681001:=n0_
               have HO_689001:=n1_
               have HO_695001:=n2_
               have HO715:=n3_
               have HO719:=n4_
               have BK665:=n5_
               have BK680:=n6_
               have BK688:=n7_
               have BK694:=n8_
               have BK725:=n9_
               have HB:=n10_
               clear n0_ n1_ n2_ n3_ n4_ n5_ n6_ n7_ n8_ n9_ n10_
               (try clear hb)
               (try clear hb2)
               (try clear hk)
               (try clear hi)
               (try clear ho0)
               obtain ⟨Ao138,co138,eo138⟩:=Kd.R_slice HO715.out
               (first|subst eo138|(injection eo138 with f1_ f2_ f3_;have f4_:=f1_.symm;have f5_:=f3_.symm;clear f1_ f2_ f3_;subst f4_;subst f5_))
               obtain ⟨Ao139,co139,eo139⟩:=Kd.R_slice HO719.out
               (first|subst eo139|(injection eo139 with f1_ f2_ f3_;have f4_:=f1_.symm;have f5_:=f3_.symm;clear f1_ f2_ f3_;subst f4_;subst f5_))
               refine hK.out _ _ ⟨(blk_cell BK665.out 0).trans rfl,(blk_cell BK665.out 1).trans rfl⟩ (fun hHeld => ?_)
               clear hK K
               refine norm_ (a':=?_) ?_ ?_
               rotate_left
               ·show Act.put _ (some 110) _ = _
                simp only [Act.put,List.setIfInBounds_toArray,List.set_cons_zero,List.set_cons_succ,i64_w,i32_w]
                rfl
               refine one_ (i:=7) (N:=some 114) #[true,true,true,true,true,true,true,true,false,false,false,true,false,false] rfl rfl (one_of HT_.out (by kernel_rfl)) (by decide) (fun K hK => ?_)
               refine goes_ Tryd.func42 (by kernel_rfl) rfl #[.slice Ao138 t713.length co138,.agg #[.int .i64 t716,.slice Ao139 t717.length co139],.int .i64 a2,.int .i64 a3,.int .i64 a4] (by rfl) rfl rfl (by (try simp only [List.map_toArray,List.map_cons,List.map_nil]);first|done|rfl|(simp only [List.length_drop,List.length_take];rfl)) ?_
               with_reducible refine (impl_YoungSet.calls kj78 _ _ t713 t716 _ _ t717 a2 a3 a4 t720 t721 t724 _ ?side1 ?side2 ?side3 ?side4 A125.out).mono ?_
               (case side1 => repeat (first|exact (Kd.R_reads' HO715.out).2.2|(with_reducible first|refine Kd.C_alloc ?_ _|refine Kd.C_drewN ?_ _|refine Kd.C_drew ?_)))
               (case side2 => exact (Kd.R_reads' HO715.out).2.1)
               (case side3 => repeat (first|exact (Kd.R_reads' HO719.out).2.2|(with_reducible first|refine Kd.C_alloc ?_ _|refine Kd.C_drewN ?_ _|refine Kd.C_drew ?_)))
               (case side4 => exact (Kd.R_reads' HO719.out).2.1)
               rintro e w140 ⟨v722,rfl,ho0,hb⟩
               refine ⟨_,rfl,?_⟩
               have n0_:=am (Kd.R_elder' (kup HO_681001.out) (Kd.R_base ho0) hb)
               have n1_:=am (Kd.R_elder' (kup HO_689001.out) (Kd.R_base ho0) hb)
               have n2_:=am (Kd.R_elder' (kup HO_695001.out) (Kd.R_base ho0) hb)
               have n3_:=am (Kd.R_below (kup HO715.out) hb)
               have n4_:=am (Kd.R_elder' (kup HO719.out) (Kd.R_base ho0) hb)
               have n5_:=am (Kd.R_lower (Kd.R_new' (Kd.R_new' (Kd.R_new' (Kd.R_new' ho0 (Kd.R_lt (kup HO_681001.out))) (Kd.R_lt (kup HO_689001.out))) (Kd.R_lt (kup HO_695001.out))) (Kd.R_lt (kup HO719.out))) (below_size (lup HB.out)))
               have n6_:=am (blk_below (bup BK665.out) hb)
               have n7_:=am (blk_below (bup BK680.out) hb)
               have n8_:=am (blk_below (bup BK688.out) hb)
               have n9_:=am (blk_below (bup BK694.out) hb)
               have n10_:=am (blk_below (bup BK725.out) hb)
               have n11_:=am (below_step (lup HB.out) hb)
               clear HO_681001
               clear HO_689001
               clear HO_695001
               clear HO715
               clear HO719
               clear BK665
               clear BK680
               clear BK688
               clear BK694
               clear BK725
               clear HB
               have HO_681001:=n0_
               have HO_689001:=n1_
               have HO_695001:=n2_
               have HO715:=n3_
               have HO719:=n4_
               have HO723:=n5_
               have BK665:=n6_
               have BK680:=n7_
               have BK688:=n8_
               have BK694:=n9_
               have BK725:=n10_
               have HB:=n11_
               clear n0_ n1_ n2_ n3_ n4_ n5_ n6_ n7_ n8_ n9_ n10_ n11_
               (try clear hb)
               (try clear hb2)
               (try clear hk)
               (try clear hi)
               (try clear ho0)
               refine hK.out _ _ ⟨(blk_cell BK665.out 0).trans rfl,(blk_cell BK665.out 1).trans rfl⟩ (fun hHeld => ?_)
               clear hK K
               refine norm_ (a':=?_) ?_ ?_
               rotate_left
               ·show Act.put _ (some 114) _ = _
                simp only [Act.put,List.setIfInBounds_toArray,List.set_cons_zero,List.set_cons_succ,i64_w,i32_w]
                rfl
               refine pure_ (i:=8) (N:=some 106) (v:=?_) (a':=?_) #[true,true,true,true,true,true,true,true,true,false,false,true,false,false] rfl rfl (any_of HT_.out (by kernel_rfl)) (fun _ _ _ h => h) (Or.inl ⟨by rfl,?_⟩) ?_ ?_
               rotate_left
               ·intro w'
                go_simp
                with_reducible rfl
               rotate_left
               ·simp only [Act.put,List.setIfInBounds_toArray,List.set_cons_zero,List.set_cons_succ,i64_w,i32_w]
                rfl
               refine pure_ (i:=9) (N:=some 115) (v:=?_) (a':=?_) #[true,true,true,true,true,true,true,true,true,true,false,true,false,false] rfl rfl (any_of HT_.out (by kernel_rfl)) (fun _ _ _ h => h) (Or.inl ⟨by rfl,?_⟩) ?_ ?_
               rotate_left
               ·intro w'
                go_simp
                with_reducible rfl
               rotate_left
               ·simp only [Act.put,List.setIfInBounds_toArray,List.set_cons_zero,List.set_cons_succ,i64_w,i32_w]
                rfl
               refine pure_ (i:=10) (N:=some 116) (v:=?_) (a':=?_) #[true,true,true,true,true,true,true,true,true,true,true,true,false,false] rfl rfl (any_of HT_.out (by kernel_rfl)) (fun _ _ _ h => h) (Or.inl ⟨by rfl,?_⟩) ?_ ?_
               rotate_left
               ·intro w'
                go_simp
                with_reducible rfl
               rotate_left
               ·simp only [Act.put,List.setIfInBounds_toArray,List.set_cons_zero,List.set_cons_succ,i64_w,i32_w]
                rfl
               exact norm_ (by simp only [putAll,Act.put,List.setIfInBounds_toArray,List.set_cons_zero,List.set_cons_succ]) (hCont (.slice Ao138 t713.length co138,.slice Ao139 t717.length co139,v722,gb725) _ ⟨hHeld,(kup HO715.out),(kup (Kd.R_mono HO719.out (fun _ hk => ⟨hk.2,⟨hk.1.1.1.2,⟨hk.1.1.2,hk.1.2⟩⟩⟩))),(kup (Kd.R_mono HO723.out (fun _ hk => ⟨hk.2,⟨hk.1.1.1.2,⟨hk.1.1.2,hk.1.2⟩⟩⟩))),(kup (Kd.R_mono HO_681001.out (fun _ hk => ⟨hk.1.2,⟨hk.2,⟨hk.1.1.1,hk.1.1.2⟩⟩⟩))),(kup (Kd.R_mono HO_689001.out (fun _ hk => ⟨hk.1.2,⟨hk.2,⟨hk.1.1.1,hk.1.1.2⟩⟩⟩))),(kup (Kd.R_mono HO_695001.out (fun _ hk => ⟨hk.1.2,⟨hk.2,⟨hk.1.1.1,hk.1.1.2⟩⟩⟩))),(bup BK665.out),(bup BK680.out),(bup BK688.out),(bup BK694.out),(bup BK725.out),GW725.out,GE725.out,NB665_725.out,NB725_665.out,NB680_725.out,NB725_680.out,NB688_725.out,NB725_688.out,NB694_725.out,NB725_694.out,(lup HB.out)⟩)
             rintro ⟨v714,v718,v722,gb725⟩ w141 ⟨hS_,h0_,h1_,h2_,h3_,h4_,h5_,h6_,h7_,h8_,h9_,h10_,h11_,h12_,h13_,h14_,h15_,h16_,h17_,h18_,h19_,h20_,h21_⟩
             have n0_ : Aside0 (Kd.R Kd.string 9 w141 w.heap.size (fun _ => True) v714 t713):=⟨h0_⟩
             have n1_ : Aside0 (Kd.R (Kd.int .i64) 2 w141 w.heap.size (fun k_ => some k_≠(v722 : Value).ownBlock∧some k_≠(.slice Ao33 t676.length co33 : Value).ownBlock∧some k_≠(.slice Ao43 t708.length co43 : Value).ownBlock∧some k_≠(.slice Ao51 t690.length co51 : Value).ownBlock) v718 t717):=⟨h1_⟩
             have n2_ : Aside0 (Kd.R (Kd.int .i64) 2 w141 w.heap.size (fun k_ => some k_≠(v718 : Value).ownBlock∧some k_≠(.slice Ao33 t676.length co33 : Value).ownBlock∧some k_≠(.slice Ao43 t708.length co43 : Value).ownBlock∧some k_≠(.slice Ao51 t690.length co51 : Value).ownBlock) v722 t721):=⟨h2_⟩
             have n3_ : Aside0 (Kd.R (Kd.int .i64) 2 w141 w.heap.size (fun k_ => some k_≠(v718 : Value).ownBlock∧some k_≠(v722 : Value).ownBlock∧some k_≠(.slice Ao43 t708.length co43 : Value).ownBlock∧some k_≠(.slice Ao51 t690.length co51 : Value).ownBlock) (.slice Ao33 t676.length co33) t676):=⟨h3_⟩
             have n4_ : Aside0 (Kd.R (Kd.int .i64) 2 w141 w.heap.size (fun k_ => some k_≠(v718 : Value).ownBlock∧some k_≠(v722 : Value).ownBlock∧some k_≠(.slice Ao33 t676.length co33 : Value).ownBlock∧some k_≠(.slice Ao51 t690.length co51 : Value).ownBlock) (.slice Ao43 t708.length co43) t708):=⟨h4_⟩
             have n5_ : Aside0 (Kd.R (Kd.int .i64) 2 w141 w.heap.size (fun k_ => some k_≠(v718 : Value).ownBlock∧some k_≠(v722 : Value).ownBlock∧some k_≠(.slice Ao33 t676.length co33 : Value).ownBlock∧some k_≠(.slice Ao43 t708.length co43 : Value).ownBlock) (.slice Ao51 t690.length co51) t711):=⟨h5_⟩
             have n6_ : Aside0 (w141.heap[gb665]? = some (.cells #[.int .i64 a1_0,.slice A1_1 l1_1.length c1_1] 25 (0,0))):=⟨h6_⟩
             have n7_ : Aside0 (w141.heap[gb680]? = some (.cells #[.int .i64 t675,.slice Ao33 t676.length co33] 30 (0,0))):=⟨h7_⟩
             have n8_ : Aside0 (w141.heap[gb688]? = some (.cells #[.int .i64 t684,.slice Ao43 t708.length co43] 30 (0,0))):=⟨h8_⟩
             have n9_ : Aside0 (w141.heap[gb694]? = some (.cells #[.int .i64 t689,.slice Ao51 t690.length co51] 30 (0,0))):=⟨h9_⟩
             have n10_ : Aside0 (w141.heap[gb725]? = some (.cells #[.int .i64 0,.slice none 0 0] 30 (0,0))):=⟨h10_⟩
             have n11_ : Aside0 (w.heap.size ≤ gb725):=⟨h11_⟩
             have n12_ : Aside0 (w.heap.size ≤ gb725):=⟨h12_⟩
             have n13_ : Aside0 (gb665≠gb725):=⟨h13_⟩
             have n14_ : Aside0 (gb725≠gb665):=⟨h14_⟩
             have n15_ : Aside0 (gb680≠gb725):=⟨h15_⟩
             have n16_ : Aside0 (gb725≠gb680):=⟨h16_⟩
             have n17_ : Aside0 (gb688≠gb725):=⟨h17_⟩
             have n18_ : Aside0 (gb725≠gb688):=⟨h18_⟩
             have n19_ : Aside0 (gb694≠gb725):=⟨h19_⟩
             have n20_ : Aside0 (gb725≠gb694):=⟨h20_⟩
             have n21_ : Aside0 (Below w.heap.size w w141):=⟨h21_⟩
             clear HO_681001
             clear HO_689001
             clear HO_695001
             clear BK665
             clear BK680
             clear BK688
             clear BK694
             clear HB
             clear h0_ h1_ h2_ h3_ h4_ h5_ h6_ h7_ h8_ h9_ h10_ h11_ h12_ h13_ h14_ h15_ h16_ h17_ h18_ h19_ h20_ h21_
             have HO715:=n0_
             have HO719:=n1_
             have HO723:=n2_
             have HO_681001:=n3_
             have HO_689001:=n4_
             have HO_695001:=n5_
             have BK665:=n6_
             have BK680:=n7_
             have BK688:=n8_
             have BK694:=n9_
             have BK725:=n10_
             have GW725:=n11_
             have GE725:=n12_
             have NB665_725:=n13_
             have NB725_665:=n14_
             have NB680_725:=n15_
             have NB725_680:=n16_
             have NB688_725:=n17_
             have NB725_688:=n18_
             have NB694_725:=n19_
             have NB725_694:=n20_
             have HB:=n21_
             clear n0_ n1_ n2_ n3_ n4_ n5_ n6_ n7_ n8_ n9_ n10_ n11_ n12_ n13_ n14_ n15_ n16_ n17_ n18_ n19_ n20_ n21_
             have hHeld : w141.cell? ⟨gb665,0,none⟩ = some (.int .i64 a1_0)∧w141.cell? ⟨gb665,1,none⟩ = some (.slice A1_1 l1_1.length c1_1):=hS_
             obtain ⟨Ao143,co143,eo143⟩:=Kd.R_slice HO723.out
             (first|subst eo143|(injection eo143 with f1_ f2_ f3_;have f4_:=f1_.symm;have f5_:=f3_.symm;clear f1_ f2_ f3_;subst f4_;subst f5_))
             refine norm_ (a':=?_) ?_ ?_
             rotate_left
             ·simp only [putAll,Act.put,List.setIfInBounds_toArray,List.set_cons_zero,List.set_cons_succ]
              rfl
             refine one_ (i:=12) (N:=none) #[true,true,true,true,true,true,true,true,true,true,true,true,true,false] rfl rfl (one_of HT_.out (by kernel_rfl)) (by decide) (fun K hK => ?_)
             have hs142 : w141.cell? ⟨gb725,0,none⟩ = some (.int .i64 0):=(blk_cell BK725.out 0).trans rfl
             have hfs142:=blk_frozen BK725.out 0
             have hns142_0:=NB665_725.out
             have hns142_1:=NB680_725.out
             have hns142_2:=NB688_725.out
             have hns142_3:=NB694_725.out
             have hms142_0:=NB725_665.out
             have hms142_1:=NB725_680.out
             have hms142_2:=NB725_688.out
             have hms142_3:=NB725_694.out
             have hs144 : w141.cell? ⟨gb725,1,none⟩ = some (.slice none 0 0):=(blk_cell BK725.out 1).trans rfl
             have hfs144:=blk_frozen BK725.out 1
             have hns144_0:=NB665_725.out
             have hns144_1:=NB680_725.out
             have hns144_2:=NB688_725.out
             have hns144_3:=NB694_725.out
             have hms144_0:=NB725_665.out
             have hms144_1:=NB725_680.out
             have hms144_2:=NB725_688.out
             have hms144_3:=NB725_694.out
             refine skip_ (w1:=?_) (by rfl) rfl ?_ ?_
             rotate_left
             ·go_simp
              rfl
             refine hK.out _ _ ⟨((cell_far (p:=⟨gb725,_,none⟩) NB665_725.out _).trans (((cell_far (p:=⟨gb725,_,none⟩) NB665_725.out _).trans (hHeld.1)))),((cell_far (p:=⟨gb725,_,none⟩) NB665_725.out _).trans (((cell_far (p:=⟨gb725,_,none⟩) NB665_725.out _).trans (hHeld.2))))⟩ (fun hHeld => ?_)
             clear hK K
             refine pure_ (i:=13) (N:=some 22) (v:=?_) (a':=?_) #[true,true,true,true,true,true,true,true,true,true,true,true,true,true] rfl rfl (any_of HT_.out (by kernel_rfl)) (fun _ _ _ h => h) (Or.inl ⟨by rfl,?_⟩) ?_ ?_
             rotate_left
             ·intro w'
              go_simp
              with_reducible rfl
             rotate_left
             ·simp only [Act.put,List.setIfInBounds_toArray,List.set_cons_zero,List.set_cons_succ,i64_w,i32_w]
              rfl
             refine done_ (done_of HT_.out (by kernel_rfl)) ?_
             go_upto_region 32 with (fail)
             go_cut [125] (fun v125 wc => ∃ (kq : Nat) (x125_125 : Bool),v125 = .bool x125_125∧Aside0 (laws_FnExactYoungSet.j2 kq t710 x125_125 t689 t711 = some r)∧Aside0 (kq ≤ kj78)∧Aside0 (Kd.R (Kd.int .i64) 2 wc w.heap.size (fun k_ => some k_≠((.slice Ao43 t708.length co43) : Value).ownBlock∧some k_≠((.slice Ao51 t690.length co51) : Value).ownBlock∧some k_≠((.slice Ao143 t721.length co143) : Value).ownBlock) (.slice Ao33 t676.length co33) t676)∧Aside0 (Kd.R (Kd.int .i64) 2 wc w.heap.size (fun k_ => some k_≠((.slice Ao33 t676.length co33) : Value).ownBlock∧some k_≠((.slice Ao51 t690.length co51) : Value).ownBlock∧some k_≠((.slice Ao143 t721.length co143) : Value).ownBlock) (.slice Ao43 t708.length co43) t708)∧Aside0 (Kd.R (Kd.int .i64) 2 wc w.heap.size (fun k_ => some k_≠((.slice Ao33 t676.length co33) : Value).ownBlock∧some k_≠((.slice Ao43 t708.length co43) : Value).ownBlock∧some k_≠((.slice Ao143 t721.length co143) : Value).ownBlock) (.slice Ao51 t690.length co51) t711)∧Aside0 (Kd.R (Kd.int .i64) 2 wc w.heap.size (fun k_ => some k_≠((.slice Ao33 t676.length co33) : Value).ownBlock∧some k_≠((.slice Ao43 t708.length co43) : Value).ownBlock∧some k_≠((.slice Ao51 t690.length co51) : Value).ownBlock) (.slice Ao143 t721.length co143) t721)∧Aside0 (wc.heap[gb665]? = some (.cells #[.int .i64 a1_0,(.slice A1_1 l1_1.length c1_1)] 25 (0,0)))∧Aside0 (wc.heap[gb680]? = some (.cells #[.int .i64 t675,(.slice Ao33 t676.length co33)] 30 (0,0)))∧Aside0 (wc.heap[gb688]? = some (.cells #[.int .i64 t684,(.slice Ao43 t708.length co43)] 30 (0,0)))∧Aside0 (wc.heap[gb694]? = some (.cells #[.int .i64 t689,(.slice Ao51 t690.length co51)] 30 (0,0)))∧Aside0 (wc.heap[gb725]? = some (.cells #[.int .i64 t720,(.slice Ao143 t721.length co143)] 30 (0,0)))∧Aside0 (Below w.heap.size w wc))
             case first =>
              have H:=HC126.out
              clear HC126
              replace H:=Option.bind_eq_some_iff.mp H
              obtain ⟨t726,A1450,H⟩:=H
              try dsimp only at H
              have A145:=am A1450
              clear A1450
              by_cases c146 : t726 = true
              ·subst c146
               have H1:=H;rw [if_pos rfl] at H1
               clear H
               have H:=H1
               clear H1
               have H':=am H
               clear H
               have hnb147:=NB725_665.out
               have hnc147:=NB665_725.out
               have hnb148:=NB725_680.out
               have hnc148:=NB680_725.out
               have hnb149:=NB725_688.out
               have hnc149:=NB688_725.out
               have hnb150:=NB725_694.out
               have hnc150:=NB694_725.out
               have hcz151_0 : w141.cell? ⟨gb725,0,none⟩ = some (.int .i64 0):=(blk_cell BK725.out 0).trans rfl
               have hcz151_1 : w141.cell? ⟨gb725,1,none⟩ = some (.slice none 0 0):=(blk_cell BK725.out 1).trans rfl
               have hfz151_0:=blk_frozen BK725.out 0
               have hfz151_1:=blk_frozen BK725.out 1
               have hnb152:=NB680_665.out
               have hnc152:=NB665_680.out
               have hnb153:=NB680_688.out
               have hnc153:=NB688_680.out
               have hnb154:=NB680_694.out
               have hnc154:=NB694_680.out
               have hcz155_0 : w141.cell? ⟨gb680,0,none⟩ = some (.int .i64 t675):=(blk_cell BK680.out 0).trans rfl
               have hcz155_1 : w141.cell? ⟨gb680,1,none⟩ = some (.slice Ao33 t676.length co33):=(blk_cell BK680.out 1).trans rfl
               have hfz155_0:=blk_frozen BK680.out 0
               have hfz155_1:=blk_frozen BK680.out 1
               go_wp2_with (first|((with_reducible refine gate_callee (f:=23) rfl ?_);refine goesL_ (some 119) rfl rfl Tryd.func23 (by kernel_rfl) rfl #[.agg #[.int .i64 t720,.slice Ao143 t721.length co143],.agg #[.int .i64 t675,.slice Ao33 t676.length co33]] rfl (by (try simp only [List.map_toArray,List.map_cons,List.map_nil]);first|done|rfl|(simp only [List.length_drop,List.length_take];rfl)) ?_;(with_reducible refine (laws_eqNursery.calls kj78 t720 _ _ t721 t675 _ _ t676 true _ ?side1 ?side2 ?side3 ?side4 A145.out).mono ?_);(case side1 => refine (Kd.R_reads' (e:=2) (base:=w.heap.size) (ok:=fun k_ => (some k_≠(v718 : Value).ownBlock∧(some k_≠(.slice Ao33 t676.length co33 : Value).ownBlock∧(some k_≠(.slice Ao43 t708.length co43 : Value).ownBlock∧some k_≠(.slice Ao51 t690.length co51 : Value).ownBlock)))) (n:=t721.length) (c:=co143) ?_).2.2;exact (by (with_reducible repeat (first|apply Kd.R_alloc|apply Kd.R_drewN|apply Kd.R_drew));exact (Kd.R_mono (Kd.R_far (p:=⟨gb725,1,none⟩) (Kd.R_far (p:=⟨gb725,0,none⟩) (Kd.R_types HO723.out BK725.out (by decide)) (fun _ hk => hk.2) (.int .i64 t720)) (fun _ hk => hk.2) (.slice Ao143 t721.length co143)) (fun _ h_ => h_.1))));(case side2 => exact (Kd.R_reads' HO723.out).2.1);(case side3 => refine (Kd.R_reads' (e:=2) (base:=w.heap.size) (ok:=fun k_ => (some k_≠(v718 : Value).ownBlock∧(some k_≠(.slice Ao143 t721.length co143 : Value).ownBlock∧(some k_≠(.slice Ao43 t708.length co43 : Value).ownBlock∧some k_≠(.slice Ao51 t690.length co51 : Value).ownBlock)))) (n:=t676.length) (c:=co33) ?_).2.2;exact (by (with_reducible repeat (first|apply Kd.R_alloc|apply Kd.R_drewN|apply Kd.R_drew));exact (Kd.R_mono (Kd.R_far (p:=⟨gb725,1,none⟩) (Kd.R_far (p:=⟨gb725,0,none⟩) (Kd.R_types HO_681001.out BK725.out (by decide)) (fun _ hk => hk.2) (.int .i64 t720)) (fun _ hk => hk.2) (.slice Ao143 t721.length co143)) (fun _ h_ => h_.1))));(case side4 => exact (Kd.R_reads' HO_681001.out).2.1);rintro e w156 ⟨rfl,hb⟩;refine ⟨_,rfl,?_⟩;have n0_:=am (Kd.R_below (by (with_reducible repeat (first|apply Kd.R_alloc|apply Kd.R_drewN|apply Kd.R_drew));exact (Kd.R_mono (Kd.R_far (p:=⟨gb725,1,none⟩) (Kd.R_far (p:=⟨gb725,0,none⟩) (Kd.R_types HO_681001.out BK725.out (by decide)) (fun _ hk => hk.2) (.int .i64 t720)) (fun _ hk => hk.2) (.slice Ao143 t721.length co143)) (fun _ h_ => h_.1))) hb);have n1_:=am (Kd.R_below (by (with_reducible repeat (first|apply Kd.R_alloc|apply Kd.R_drewN|apply Kd.R_drew));exact (Kd.R_mono (Kd.R_far (p:=⟨gb725,1,none⟩) (Kd.R_far (p:=⟨gb725,0,none⟩) (Kd.R_types HO_689001.out BK725.out (by decide)) (fun _ hk => hk.2) (.int .i64 t720)) (fun _ hk => hk.2) (.slice Ao143 t721.length co143)) (fun _ h_ => h_.1))) hb);have n2_:=am (Kd.R_below (by (with_reducible repeat (first|apply Kd.R_alloc|apply Kd.R_drewN|apply Kd.R_drew));exact (Kd.R_mono (Kd.R_far (p:=⟨gb725,1,none⟩) (Kd.R_far (p:=⟨gb725,0,none⟩) (Kd.R_types HO_695001.out BK725.out (by decide)) (fun _ hk => hk.2) (.int .i64 t720)) (fun _ hk => hk.2) (.slice Ao143 t721.length co143)) (fun _ h_ => h_.1))) hb);have n3_:=am (Kd.R_below (by (with_reducible repeat (first|apply Kd.R_alloc|apply Kd.R_drewN|apply Kd.R_drew));exact (Kd.R_mono (Kd.R_far (p:=⟨gb725,1,none⟩) (Kd.R_far (p:=⟨gb725,0,none⟩) (Kd.R_types HO715.out BK725.out (by decide)) (fun _ hk => hk.2) (.int .i64 t720)) (fun _ hk => hk.2) (.slice Ao143 t721.length co143)) (fun _ h_ => h_.1))) hb);have n4_:=am (Kd.R_below (by (with_reducible repeat (first|apply Kd.R_alloc|apply Kd.R_drewN|apply Kd.R_drew));exact (Kd.R_mono (Kd.R_far (p:=⟨gb725,1,none⟩) (Kd.R_far (p:=⟨gb725,0,none⟩) (Kd.R_types HO719.out BK725.out (by decide)) (fun _ hk => hk.2) (.int .i64 t720)) (fun _ hk => hk.2) (.slice Ao143 t721.length co143)) (fun _ h_ => h_.1))) hb);have n5_:=am (Kd.R_below (by (with_reducible repeat (first|apply Kd.R_alloc|apply Kd.R_drewN|apply Kd.R_drew));exact (Kd.R_mono (Kd.R_far (p:=⟨gb725,1,none⟩) (Kd.R_far (p:=⟨gb725,0,none⟩) (Kd.R_types HO723.out BK725.out (by decide)) (fun _ hk => hk.2) (.int .i64 t720)) (fun _ hk => hk.2) (.slice Ao143 t721.length co143)) (fun _ h_ => h_.1))) hb);have n6_:=am (blk_below (g:=gb665) (o:=.cells #[.int .i64 a1_0,.slice A1_1 l1_1.length c1_1] 25 (0,0)) (by (with_reducible repeat (first|refine blk_drewN ?_ _|refine blk_drew ?_|refine blk_alloc ?_ _));refine blk_far ?_ NB665_725.out _;(with_reducible repeat (first|refine blk_drewN ?_ _|refine blk_drew ?_|refine blk_alloc ?_ _));refine blk_far ?_ NB665_725.out _;(with_reducible repeat (first|refine blk_drewN ?_ _|refine blk_drew ?_|refine blk_alloc ?_ _));exact BK665.out) hb);have n7_:=am (blk_below (g:=gb680) (o:=.cells #[.int .i64 t675,.slice Ao33 t676.length co33] 30 (0,0)) (by (with_reducible repeat (first|refine blk_drewN ?_ _|refine blk_drew ?_|refine blk_alloc ?_ _));refine blk_far ?_ NB680_725.out _;(with_reducible repeat (first|refine blk_drewN ?_ _|refine blk_drew ?_|refine blk_alloc ?_ _));refine blk_far ?_ NB680_725.out _;(with_reducible repeat (first|refine blk_drewN ?_ _|refine blk_drew ?_|refine blk_alloc ?_ _));exact BK680.out) hb);have n8_:=am (blk_below (g:=gb688) (o:=.cells #[.int .i64 t684,.slice Ao43 t708.length co43] 30 (0,0)) (by (with_reducible repeat (first|refine blk_drewN ?_ _|refine blk_drew ?_|refine blk_alloc ?_ _));refine blk_far ?_ NB688_725.out _;(with_reducible repeat (first|refine blk_drewN ?_ _|refine blk_drew ?_|refine blk_alloc ?_ _));refine blk_far ?_ NB688_725.out _;(with_reducible repeat (first|refine blk_drewN ?_ _|refine blk_drew ?_|refine blk_alloc ?_ _));exact BK688.out) hb);have n9_:=am (blk_below (g:=gb694) (o:=.cells #[.int .i64 t689,.slice Ao51 t690.length co51] 30 (0,0)) (by (with_reducible repeat (first|refine blk_drewN ?_ _|refine blk_drew ?_|refine blk_alloc ?_ _));refine blk_far ?_ NB694_725.out _;(with_reducible repeat (first|refine blk_drewN ?_ _|refine blk_drew ?_|refine blk_alloc ?_ _));refine blk_far ?_ NB694_725.out _;(with_reducible repeat (first|refine blk_drewN ?_ _|refine blk_drew ?_|refine blk_alloc ?_ _));exact BK694.out) hb);have n10_:=am (blk_below (g:=gb725) (o:=.cells #[.int .i64 t720,.slice Ao143 t721.length co143] 30 (0,0)) (by (with_reducible repeat (first|refine blk_drewN ?_ _|refine blk_drew ?_|refine blk_alloc ?_ _));refine blk_put (cs:=#[.int .i64 t720,.slice none 0 0]) ?_ 1 _ rfl;(with_reducible repeat (first|refine blk_drewN ?_ _|refine blk_drew ?_|refine blk_alloc ?_ _));refine blk_put (cs:=#[.int .i64 0,.slice none 0 0]) ?_ 0 _ rfl;(with_reducible repeat (first|refine blk_drewN ?_ _|refine blk_drew ?_|refine blk_alloc ?_ _));exact BK725.out) hb);have n11_:=am (below_step (by repeat (first|(with_reducible first|exact HB.out|apply below_alloc|apply pw_below_drewN|apply below_drew1|refine below_set ?_ GE665.out|refine below_set ?_ GE680.out|refine below_set ?_ GE688.out|refine below_set ?_ GE694.out|refine below_set ?_ GE725.out)|exact HB.out)) hb);clear HO_681001 HO_689001 HO_695001 HO715 HO719 HO723 BK665 BK680 BK688 BK694 BK725 HB;have HO_681001:=n0_;have HO_689001:=n1_;have HO_695001:=n2_;have HO715:=n3_;have HO719:=n4_;have HO723:=n5_;have BK665:=n6_;have BK680:=n7_;have BK688:=n8_;have BK694:=n9_;have BK725:=n10_;have HB:=n11_;clear n0_ n1_ n2_ n3_ n4_ n5_ n6_ n7_ n8_ n9_ n10_ n11_;(try clear hb);(try clear hb2);(try clear hk);(try clear hi)))
               go_meet
               case rel => exact ⟨_,((t724 != t679)),(by first|rfl|(simp;done)|(simp [*];done)),H',⟨by have:=HJ19.out;have:=HJ78.out;first|omega|exact Nat.le_refl _⟩,⟨by (try simp only [hl689001_78]);(with_reducible repeat (first|apply Kd.R_alloc|apply Kd.R_drewN|apply Kd.R_drew));exact Kd.R_mono HO_681001.out (fun _ hk => ⟨hk.2.2.1,⟨hk.2.2.2,hk.2.1⟩⟩)⟩,⟨by (try simp only [hl689001_78]);(with_reducible repeat (first|apply Kd.R_alloc|apply Kd.R_drewN|apply Kd.R_drew));exact Kd.R_mono HO_689001.out (fun _ hk => ⟨hk.2.2.1,⟨hk.2.2.2,hk.2.1⟩⟩)⟩,⟨by (try simp only [hl689001_78]);(with_reducible repeat (first|apply Kd.R_alloc|apply Kd.R_drewN|apply Kd.R_drew));exact Kd.R_mono HO_695001.out (fun _ hk => ⟨hk.2.2.1,⟨hk.2.2.2,hk.2.1⟩⟩)⟩,⟨by (try simp only [hl689001_78]);(with_reducible repeat (first|apply Kd.R_alloc|apply Kd.R_drewN|apply Kd.R_drew));exact Kd.R_mono HO723.out (fun _ hk => ⟨hk.2.1,⟨hk.2.2.1,hk.2.2.2⟩⟩)⟩,⟨by (try simp only [hl689001_78]);(with_reducible repeat (first|refine blk_drewN ?_ _|refine blk_drew ?_|refine blk_alloc ?_ _));exact BK665.out⟩,⟨by (try simp only [hl689001_78]);(with_reducible repeat (first|refine blk_drewN ?_ _|refine blk_drew ?_|refine blk_alloc ?_ _));exact BK680.out⟩,⟨by (try simp only [hl689001_78]);(with_reducible repeat (first|refine blk_drewN ?_ _|refine blk_drew ?_|refine blk_alloc ?_ _));exact BK688.out⟩,⟨by (try simp only [hl689001_78]);(with_reducible repeat (first|refine blk_drewN ?_ _|refine blk_drew ?_|refine blk_alloc ?_ _));exact BK694.out⟩,⟨by (try simp only [hl689001_78]);(with_reducible repeat (first|refine blk_drewN ?_ _|refine blk_drew ?_|refine blk_alloc ?_ _));exact BK725.out⟩,⟨lup HB.out⟩⟩
              ·replace c146:=Bool.eq_false_iff.mpr c146
               subst c146
               have H1 : (laws_FnExactYoungSet.j2 kj78 t710 true t689 t711) = some r:=by rw [if_neg (show ¬ (false = true) by decide)] at H;exact H
               clear H
               have H:=H1
               clear H1
               have H':=am H
               clear H
               have hnb157:=NB725_665.out
               have hnc157:=NB665_725.out
               have hnb158:=NB725_680.out
               have hnc158:=NB680_725.out
               have hnb159:=NB725_688.out
               have hnc159:=NB688_725.out
               have hnb160:=NB725_694.out
               have hnc160:=NB694_725.out
               have hcz161_0 : w141.cell? ⟨gb725,0,none⟩ = some (.int .i64 0):=(blk_cell BK725.out 0).trans rfl
               have hcz161_1 : w141.cell? ⟨gb725,1,none⟩ = some (.slice none 0 0):=(blk_cell BK725.out 1).trans rfl
               have hfz161_0:=blk_frozen BK725.out 0
               have hfz161_1:=blk_frozen BK725.out 1
               have hnb162:=NB680_665.out
               have hnc162:=NB665_680.out
               have hnb163:=NB680_688.out
               have hnc163:=NB688_680.out
               have hnb164:=NB680_694.out
               have hnc164:=NB694_680.out
               have hcz165_0 : w141.cell? ⟨gb680,0,none⟩ = some (.int .i64 t675):=(blk_cell BK680.out 0).trans rfl
               have hcz165_1 : w141.cell? ⟨gb680,1,none⟩ = some (.slice Ao33 t676.length co33):=(blk_cell BK680.out 1).trans rfl
               have hfz165_0:=blk_frozen BK680.out 0
               have hfz165_1:=blk_frozen BK680.out 1
               go_wp2_with (first|((with_reducible refine gate_callee (f:=23) rfl ?_);refine goesL_ (some 119) rfl rfl Tryd.func23 (by kernel_rfl) rfl #[.agg #[.int .i64 t720,.slice Ao143 t721.length co143],.agg #[.int .i64 t675,.slice Ao33 t676.length co33]] rfl (by (try simp only [List.map_toArray,List.map_cons,List.map_nil]);first|done|rfl|(simp only [List.length_drop,List.length_take];rfl)) ?_;(with_reducible refine (laws_eqNursery.calls kj78 t720 _ _ t721 t675 _ _ t676 false _ ?side1 ?side2 ?side3 ?side4 A145.out).mono ?_);(case side1 => refine (Kd.R_reads' (e:=2) (base:=w.heap.size) (ok:=fun k_ => (some k_≠(v718 : Value).ownBlock∧(some k_≠(.slice Ao33 t676.length co33 : Value).ownBlock∧(some k_≠(.slice Ao43 t708.length co43 : Value).ownBlock∧some k_≠(.slice Ao51 t690.length co51 : Value).ownBlock)))) (n:=t721.length) (c:=co143) ?_).2.2;exact (by (with_reducible repeat (first|apply Kd.R_alloc|apply Kd.R_drewN|apply Kd.R_drew));exact (Kd.R_mono (Kd.R_far (p:=⟨gb725,1,none⟩) (Kd.R_far (p:=⟨gb725,0,none⟩) (Kd.R_types HO723.out BK725.out (by decide)) (fun _ hk => hk.2) (.int .i64 t720)) (fun _ hk => hk.2) (.slice Ao143 t721.length co143)) (fun _ h_ => h_.1))));(case side2 => exact (Kd.R_reads' HO723.out).2.1);(case side3 => refine (Kd.R_reads' (e:=2) (base:=w.heap.size) (ok:=fun k_ => (some k_≠(v718 : Value).ownBlock∧(some k_≠(.slice Ao143 t721.length co143 : Value).ownBlock∧(some k_≠(.slice Ao43 t708.length co43 : Value).ownBlock∧some k_≠(.slice Ao51 t690.length co51 : Value).ownBlock)))) (n:=t676.length) (c:=co33) ?_).2.2;exact (by (with_reducible repeat (first|apply Kd.R_alloc|apply Kd.R_drewN|apply Kd.R_drew));exact (Kd.R_mono (Kd.R_far (p:=⟨gb725,1,none⟩) (Kd.R_far (p:=⟨gb725,0,none⟩) (Kd.R_types HO_681001.out BK725.out (by decide)) (fun _ hk => hk.2) (.int .i64 t720)) (fun _ hk => hk.2) (.slice Ao143 t721.length co143)) (fun _ h_ => h_.1))));(case side4 => exact (Kd.R_reads' HO_681001.out).2.1);rintro e w166 ⟨rfl,hb⟩;refine ⟨_,rfl,?_⟩;have n0_:=am (Kd.R_below (by (with_reducible repeat (first|apply Kd.R_alloc|apply Kd.R_drewN|apply Kd.R_drew));exact (Kd.R_mono (Kd.R_far (p:=⟨gb725,1,none⟩) (Kd.R_far (p:=⟨gb725,0,none⟩) (Kd.R_types HO_681001.out BK725.out (by decide)) (fun _ hk => hk.2) (.int .i64 t720)) (fun _ hk => hk.2) (.slice Ao143 t721.length co143)) (fun _ h_ => h_.1))) hb);have n1_:=am (Kd.R_below (by (with_reducible repeat (first|apply Kd.R_alloc|apply Kd.R_drewN|apply Kd.R_drew));exact (Kd.R_mono (Kd.R_far (p:=⟨gb725,1,none⟩) (Kd.R_far (p:=⟨gb725,0,none⟩) (Kd.R_types HO_689001.out BK725.out (by decide)) (fun _ hk => hk.2) (.int .i64 t720)) (fun _ hk => hk.2) (.slice Ao143 t721.length co143)) (fun _ h_ => h_.1))) hb);have n2_:=am (Kd.R_below (by (with_reducible repeat (first|apply Kd.R_alloc|apply Kd.R_drewN|apply Kd.R_drew));exact (Kd.R_mono (Kd.R_far (p:=⟨gb725,1,none⟩) (Kd.R_far (p:=⟨gb725,0,none⟩) (Kd.R_types HO_695001.out BK725.out (by decide)) (fun _ hk => hk.2) (.int .i64 t720)) (fun _ hk => hk.2) (.slice Ao143 t721.length co143)) (fun _ h_ => h_.1))) hb);have n3_:=am (Kd.R_below (by (with_reducible repeat (first|apply Kd.R_alloc|apply Kd.R_drewN|apply Kd.R_drew));exact (Kd.R_mono (Kd.R_far (p:=⟨gb725,1,none⟩) (Kd.R_far (p:=⟨gb725,0,none⟩) (Kd.R_types HO715.out BK725.out (by decide)) (fun _ hk => hk.2) (.int .i64 t720)) (fun _ hk => hk.2) (.slice Ao143 t721.length co143)) (fun _ h_ => h_.1))) hb);have n4_:=am (Kd.R_below (by (with_reducible repeat (first|apply Kd.R_alloc|apply Kd.R_drewN|apply Kd.R_drew));exact (Kd.R_mono (Kd.R_far (p:=⟨gb725,1,none⟩) (Kd.R_far (p:=⟨gb725,0,none⟩) (Kd.R_types HO719.out BK725.out (by decide)) (fun _ hk => hk.2) (.int .i64 t720)) (fun _ hk => hk.2) (.slice Ao143 t721.length co143)) (fun _ h_ => h_.1))) hb);have n5_:=am (Kd.R_below (by (with_reducible repeat (first|apply Kd.R_alloc|apply Kd.R_drewN|apply Kd.R_drew));exact (Kd.R_mono (Kd.R_far (p:=⟨gb725,1,none⟩) (Kd.R_far (p:=⟨gb725,0,none⟩) (Kd.R_types HO723.out BK725.out (by decide)) (fun _ hk => hk.2) (.int .i64 t720)) (fun _ hk => hk.2) (.slice Ao143 t721.length co143)) (fun _ h_ => h_.1))) hb);have n6_:=am (blk_below (g:=gb665) (o:=.cells #[.int .i64 a1_0,.slice A1_1 l1_1.length c1_1] 25 (0,0)) (by (with_reducible repeat (first|refine blk_drewN ?_ _|refine blk_drew ?_|refine blk_alloc ?_ _));refine blk_far ?_ NB665_725.out _;(with_reducible repeat (first|refine blk_drewN ?_ _|refine blk_drew ?_|refine blk_alloc ?_ _));refine blk_far ?_ NB665_725.out _;(with_reducible repeat (first|refine blk_drewN ?_ _|refine blk_drew ?_|refine blk_alloc ?_ _));exact BK665.out) hb);have n7_:=am (blk_below (g:=gb680) (o:=.cells #[.int .i64 t675,.slice Ao33 t676.length co33] 30 (0,0)) (by (with_reducible repeat (first|refine blk_drewN ?_ _|refine blk_drew ?_|refine blk_alloc ?_ _));refine blk_far ?_ NB680_725.out _;(with_reducible repeat (first|refine blk_drewN ?_ _|refine blk_drew ?_|refine blk_alloc ?_ _));refine blk_far ?_ NB680_725.out _;(with_reducible repeat (first|refine blk_drewN ?_ _|refine blk_drew ?_|refine blk_alloc ?_ _));exact BK680.out) hb);have n8_:=am (blk_below (g:=gb688) (o:=.cells #[.int .i64 t684,.slice Ao43 t708.length co43] 30 (0,0)) (by (with_reducible repeat (first|refine blk_drewN ?_ _|refine blk_drew ?_|refine blk_alloc ?_ _));refine blk_far ?_ NB688_725.out _;(with_reducible repeat (first|refine blk_drewN ?_ _|refine blk_drew ?_|refine blk_alloc ?_ _));refine blk_far ?_ NB688_725.out _;(with_reducible repeat (first|refine blk_drewN ?_ _|refine blk_drew ?_|refine blk_alloc ?_ _));exact BK688.out) hb);have n9_:=am (blk_below (g:=gb694) (o:=.cells #[.int .i64 t689,.slice Ao51 t690.length co51] 30 (0,0)) (by (with_reducible repeat (first|refine blk_drewN ?_ _|refine blk_drew ?_|refine blk_alloc ?_ _));refine blk_far ?_ NB694_725.out _;(with_reducible repeat (first|refine blk_drewN ?_ _|refine blk_drew ?_|refine blk_alloc ?_ _));refine blk_far ?_ NB694_725.out _;(with_reducible repeat (first|refine blk_drewN ?_ _|refine blk_drew ?_|refine blk_alloc ?_ _));exact BK694.out) hb);have n10_:=am (blk_below (g:=gb725) (o:=.cells #[.int .i64 t720,.slice Ao143 t721.length co143] 30 (0,0)) (by (with_reducible repeat (first|refine blk_drewN ?_ _|refine blk_drew ?_|refine blk_alloc ?_ _));refine blk_put (cs:=#[.int .i64 t720,.slice none 0 0]) ?_ 1 _ rfl;(with_reducible repeat (first|refine blk_drewN ?_ _|refine blk_drew ?_|refine blk_alloc ?_ _));refine blk_put (cs:=#[.int .i64 0,.slice none 0 0]) ?_ 0 _ rfl;(with_reducible repeat (first|refine blk_drewN ?_ _|refine blk_drew ?_|refine blk_alloc ?_ _));exact BK725.out) hb);have n11_:=am (below_step (by repeat (first|(with_reducible first|exact HB.out|apply below_alloc|apply pw_below_drewN|apply below_drew1|refine below_set ?_ GE665.out|refine below_set ?_ GE680.out|refine below_set ?_ GE688.out|refine below_set ?_ GE694.out|refine below_set ?_ GE725.out)|exact HB.out)) hb);clear HO_681001 HO_689001 HO_695001 HO715 HO719 HO723 BK665 BK680 BK688 BK694 BK725 HB;have HO_681001:=n0_;have HO_689001:=n1_;have HO_695001:=n2_;have HO715:=n3_;have HO719:=n4_;have HO723:=n5_;have BK665:=n6_;have BK680:=n7_;have BK688:=n8_;have BK694:=n9_;have BK725:=n10_;have HB:=n11_;clear n0_ n1_ n2_ n3_ n4_ n5_ n6_ n7_ n8_ n9_ n10_ n11_;(try clear hb);(try clear hb2);(try clear hk);(try clear hi)))
               go_meet
               case rel => exact ⟨_,(true),(by first|rfl|(simp;done)|(simp [*];done)),H',⟨by have:=HJ19.out;have:=HJ78.out;first|omega|exact Nat.le_refl _⟩,⟨by (try simp only [hl689001_78]);(with_reducible repeat (first|apply Kd.R_alloc|apply Kd.R_drewN|apply Kd.R_drew));exact Kd.R_mono HO_681001.out (fun _ hk => ⟨hk.2.2.1,⟨hk.2.2.2,hk.2.1⟩⟩)⟩,⟨by (try simp only [hl689001_78]);(with_reducible repeat (first|apply Kd.R_alloc|apply Kd.R_drewN|apply Kd.R_drew));exact Kd.R_mono HO_689001.out (fun _ hk => ⟨hk.2.2.1,⟨hk.2.2.2,hk.2.1⟩⟩)⟩,⟨by (try simp only [hl689001_78]);(with_reducible repeat (first|apply Kd.R_alloc|apply Kd.R_drewN|apply Kd.R_drew));exact Kd.R_mono HO_695001.out (fun _ hk => ⟨hk.2.2.1,⟨hk.2.2.2,hk.2.1⟩⟩)⟩,⟨by (try simp only [hl689001_78]);(with_reducible repeat (first|apply Kd.R_alloc|apply Kd.R_drewN|apply Kd.R_drew));exact Kd.R_mono HO723.out (fun _ hk => ⟨hk.2.1,⟨hk.2.2.1,hk.2.2.2⟩⟩)⟩,⟨by (try simp only [hl689001_78]);(with_reducible repeat (first|refine blk_drewN ?_ _|refine blk_drew ?_|refine blk_alloc ?_ _));exact BK665.out⟩,⟨by (try simp only [hl689001_78]);(with_reducible repeat (first|refine blk_drewN ?_ _|refine blk_drew ?_|refine blk_alloc ?_ _));exact BK680.out⟩,⟨by (try simp only [hl689001_78]);(with_reducible repeat (first|refine blk_drewN ?_ _|refine blk_drew ?_|refine blk_alloc ?_ _));exact BK688.out⟩,⟨by (try simp only [hl689001_78]);(with_reducible repeat (first|refine blk_drewN ?_ _|refine blk_drew ?_|refine blk_alloc ?_ _));exact BK694.out⟩,⟨by (try simp only [hl689001_78]);(with_reducible repeat (first|refine blk_drewN ?_ _|refine blk_drew ?_|refine blk_alloc ?_ _));exact BK725.out⟩,⟨lup HB.out⟩⟩
             case rest =>
              clear HC126
              try clear c1
              try clear c2
              try clear p2
              try clear c4
              try clear c14
              try clear c15
              try clear c16
              try clear c19
              try clear c20
              try clear c23
              try clear c42
              try clear c146
              try clear c147
              try clear c148
              try clear c149
              try clear c150
              try clear c152
              try clear c153
              try clear c154
              try clear c157
              try clear c158
              try clear c159
              try clear c160
              try clear c162
              try clear c163
              try clear c164
              try clear hcz151_0
              try clear hcz151_1
              try clear hcz155_0
              try clear hcz155_1
              try clear hcz161_0
              try clear hcz161_1
              try clear hcz165_0
              try clear hcz165_1
              try clear hfz151_0
              try clear hfz151_1
              try clear hfz155_0
              try clear hfz155_1
              try clear hfz161_0
              try clear hfz161_1
              try clear hfz165_0
              try clear hfz165_1
              obtain ⟨kq,x125_125,rfl,HA,HJ125,HO_681001,HO_689001,HO_695001,HO_726001,BK665,BK680,BK688,BK694,BK725,HB⟩:=hcut
              have hl695001_125:=(Kd.R_reads' HO_695001.out).1
              rw [hl695001_125] at HO_695001
              (try simp only [hl695001_125])
              (try simp only [hl695001_125] at BK665)
              (try simp only [hl695001_125] at BK680)
              (try simp only [hl695001_125] at BK688)
              (try simp only [hl695001_125] at BK694)
              (try simp only [hl695001_125] at BK725)
              (try simp only [hl695001_125] at HO_681001)
              (try simp only [hl695001_125] at HO_689001)
              (try simp only [hl695001_125] at HO_726001)
              cases kq with
              | zero => exact absurd HA.out (by simp [laws_FnExactYoungSet.j2])
              | succ kj125 =>
               have H:=HA.out
               clear HA
               simp only [laws_FnExactYoungSet.j2] at H
               by_cases c167 : x125_125 = true
               ·subst c167
                have H1:=H;rw [if_pos rfl] at H1
                clear H
                have H:=H1
                clear H1
                obtain rfl:=Option.some.inj H
                go_wp2
                go_ret
                exact ⟨by first|rfl|(simp [errW_none,errW_some] <;> rfl)|(simp [*,errW_none,errW_some] <;> rfl),by repeat (first|(with_reducible first|exact HB.out|apply below_alloc|apply pw_below_drewN|apply below_drew1|refine below_set ?_ GE665.out|refine below_set ?_ GE680.out|refine below_set ?_ GE688.out|refine below_set ?_ GE694.out|refine below_set ?_ GE725.out)|exact HB.out)⟩
               ·replace c167:=Bool.eq_false_iff.mpr c167
                subst c167
                have H1 : ((laws_heldNursery.f kj125 t689 t711 1).bind fun t727 => (if t727 < 0 then (some false) else (if t727 = t710 then (some true) else (some false)))) = some r:=by rw [if_neg (show ¬ (false = true) by decide)] at H;exact H
                clear H
                have H:=H1
                clear H1
                replace H:=Option.bind_eq_some_iff.mp H
                obtain ⟨t727,A1680,H⟩:=H
                try dsimp only at H
                have A168:=am A1680
                clear A1680
                by_cases c169 : t727 < 0
                ·rw [if_pos c169] at H
                 have c169b0 : decide (t727 < 0) = true:=decide_eq_true c169
                 clear c169
                 obtain rfl:=Option.some.inj H
                 have hnb170:=NB694_665.out
                 have hnc170:=NB665_694.out
                 have hnb171:=NB694_680.out
                 have hnc171:=NB680_694.out
                 have hnb172:=NB694_688.out
                 have hnc172:=NB688_694.out
                 have hnb173:=NB694_725.out
                 have hnc173:=NB725_694.out
                 have hcz174_0 : wc.cell? ⟨gb694,0,none⟩ = some (.int .i64 t689):=(blk_cell BK694.out 0).trans rfl
                 have hcz174_1 : wc.cell? ⟨gb694,1,none⟩ = some (.slice Ao51 t711.length co51):=(blk_cell BK694.out 1).trans rfl
                 have hfz174_0:=blk_frozen BK694.out 0
                 have hfz174_1:=blk_frozen BK694.out 1
                 go_wp2_with (first|((with_reducible refine gate_callee (f:=40) rfl ?_);refine goesL_ (some 128) rfl rfl Tryd.func40 (by kernel_rfl) rfl #[.agg #[.int .i64 t689,.slice Ao51 t711.length co51],.int .i64 1] rfl (by (try simp only [List.map_toArray,List.map_cons,List.map_nil]);first|done|rfl|(simp only [List.length_drop,List.length_take];rfl)) ?_;(with_reducible refine (laws_heldNursery.calls kj125 t689 _ _ t711 1 t727 _ ?side1 ?side2 A168.out).mono ?_);(case side1 => repeat (first|exact (Kd.R_reads' HO_695001.out).2.2|(with_reducible first|refine Kd.C_alloc ?_ _|refine Kd.C_drewN ?_ _|refine Kd.C_drew ?_)));(case side2 => exact (Kd.R_reads' HO_695001.out).2.1);rintro e w175 ⟨rfl,hb⟩;refine ⟨_,rfl,?_⟩;have n0_:=am (Kd.R_below (kup HO_681001.out) hb);have n1_:=am (Kd.R_below (kup HO_689001.out) hb);have n2_:=am (Kd.R_below (kup HO_695001.out) hb);have n3_:=am (Kd.R_below (kup HO_726001.out) hb);have n4_:=am (blk_below (bup BK665.out) hb);have n5_:=am (blk_below (bup BK680.out) hb);have n6_:=am (blk_below (bup BK688.out) hb);have n7_:=am (blk_below (bup BK694.out) hb);have n8_:=am (blk_below (bup BK725.out) hb);have n9_:=am (below_step (lup HB.out) hb);clear HO_681001 HO_689001 HO_695001 HO_726001 BK665 BK680 BK688 BK694 BK725 HB;have HO_681001:=n0_;have HO_689001:=n1_;have HO_695001:=n2_;have HO_726001:=n3_;have BK665:=n4_;have BK680:=n5_;have BK688:=n6_;have BK694:=n7_;have BK725:=n8_;have HB:=n9_;clear n0_ n1_ n2_ n3_ n4_ n5_ n6_ n7_ n8_ n9_;(try clear hb);(try clear hb2);(try clear hk);(try clear hi)))
                 go_ret
                 exact ⟨by first|rfl|(simp [errW_none,errW_some] <;> rfl)|(simp [*,errW_none,errW_some] <;> rfl),by repeat (first|(with_reducible first|exact HB.out|apply below_alloc|apply pw_below_drewN|apply below_drew1|refine below_set ?_ GE665.out|refine below_set ?_ GE680.out|refine below_set ?_ GE688.out|refine below_set ?_ GE694.out|refine below_set ?_ GE725.out)|exact HB.out)⟩
                ·rw [if_neg c169] at H
                 have c169b0 : decide (t727 < 0) = false:=decide_eq_false c169
                 clear c169
                 by_cases c176 : t727 = t710
                 ·rw [if_pos c176] at H
                  have c176b0 : (t727 == t710) = true:=beq_iff_eq.mpr c176
                  have c176b1 : (t727 != t710) = false:=bne_eq_false_iff_eq.mpr c176
                  clear c176
                  obtain rfl:=Option.some.inj H
                  have hnb177:=NB694_665.out
                  have hnc177:=NB665_694.out
                  have hnb178:=NB694_680.out
                  have hnc178:=NB680_694.out
                  have hnb179:=NB694_688.out
                  have hnc179:=NB688_694.out
                  have hnb180:=NB694_725.out
                  have hnc180:=NB725_694.out
                  have hcz181_0 : wc.cell? ⟨gb694,0,none⟩ = some (.int .i64 t689):=(blk_cell BK694.out 0).trans rfl
                  have hcz181_1 : wc.cell? ⟨gb694,1,none⟩ = some (.slice Ao51 t711.length co51):=(blk_cell BK694.out 1).trans rfl
                  have hfz181_0:=blk_frozen BK694.out 0
                  have hfz181_1:=blk_frozen BK694.out 1
                  go_wp2_with (first|((with_reducible refine gate_callee (f:=40) rfl ?_);refine goesL_ (some 128) rfl rfl Tryd.func40 (by kernel_rfl) rfl #[.agg #[.int .i64 t689,.slice Ao51 t711.length co51],.int .i64 1] rfl (by (try simp only [List.map_toArray,List.map_cons,List.map_nil]);first|done|rfl|(simp only [List.length_drop,List.length_take];rfl)) ?_;(with_reducible refine (laws_heldNursery.calls kj125 t689 _ _ t711 1 t727 _ ?side1 ?side2 A168.out).mono ?_);(case side1 => repeat (first|exact (Kd.R_reads' HO_695001.out).2.2|(with_reducible first|refine Kd.C_alloc ?_ _|refine Kd.C_drewN ?_ _|refine Kd.C_drew ?_)));(case side2 => exact (Kd.R_reads' HO_695001.out).2.1);rintro e w182 ⟨rfl,hb⟩;refine ⟨_,rfl,?_⟩;have n0_:=am (Kd.R_below (kup HO_681001.out) hb);have n1_:=am (Kd.R_below (kup HO_689001.out) hb);have n2_:=am (Kd.R_below (kup HO_695001.out) hb);have n3_:=am (Kd.R_below (kup HO_726001.out) hb);have n4_:=am (blk_below (bup BK665.out) hb);have n5_:=am (blk_below (bup BK680.out) hb);have n6_:=am (blk_below (bup BK688.out) hb);have n7_:=am (blk_below (bup BK694.out) hb);have n8_:=am (blk_below (bup BK725.out) hb);have n9_:=am (below_step (lup HB.out) hb);clear HO_681001 HO_689001 HO_695001 HO_726001 BK665 BK680 BK688 BK694 BK725 HB;have HO_681001:=n0_;have HO_689001:=n1_;have HO_695001:=n2_;have HO_726001:=n3_;have BK665:=n4_;have BK680:=n5_;have BK688:=n6_;have BK694:=n7_;have BK725:=n8_;have HB:=n9_;clear n0_ n1_ n2_ n3_ n4_ n5_ n6_ n7_ n8_ n9_;(try clear hb);(try clear hb2);(try clear hk);(try clear hi)))
                  go_ret
                  exact ⟨by first|rfl|(simp [errW_none,errW_some] <;> rfl)|(simp [*,errW_none,errW_some] <;> rfl),by repeat (first|(with_reducible first|exact HB.out|apply below_alloc|apply pw_below_drewN|apply below_drew1|refine below_set ?_ GE665.out|refine below_set ?_ GE680.out|refine below_set ?_ GE688.out|refine below_set ?_ GE694.out|refine below_set ?_ GE725.out)|exact HB.out)⟩
                 ·rw [if_neg c176] at H
                  have c176b0 : (t727 == t710) = false:=beq_eq_false_iff_ne.mpr c176
                  have c176b1 : (t727 != t710) = true:=bne_iff_ne.mpr c176
                  obtain rfl:=Option.some.inj H
                  have hnb183:=NB694_665.out
                  have hnc183:=NB665_694.out
                  have hnb184:=NB694_680.out
                  have hnc184:=NB680_694.out
                  have hnb185:=NB694_688.out
                  have hnc185:=NB688_694.out
                  have hnb186:=NB694_725.out
                  have hnc186:=NB725_694.out
                  have hcz187_0 : wc.cell? ⟨gb694,0,none⟩ = some (.int .i64 t689):=(blk_cell BK694.out 0).trans rfl
                  have hcz187_1 : wc.cell? ⟨gb694,1,none⟩ = some (.slice Ao51 t711.length co51):=(blk_cell BK694.out 1).trans rfl
                  have hfz187_0:=blk_frozen BK694.out 0
                  have hfz187_1:=blk_frozen BK694.out 1
                  go_wp2_with (first|((with_reducible refine gate_callee (f:=40) rfl ?_);refine goesL_ (some 128) rfl rfl Tryd.func40 (by kernel_rfl) rfl #[.agg #[.int .i64 t689,.slice Ao51 t711.length co51],.int .i64 1] rfl (by (try simp only [List.map_toArray,List.map_cons,List.map_nil]);first|done|rfl|(simp only [List.length_drop,List.length_take];rfl)) ?_;(with_reducible refine (laws_heldNursery.calls kj125 t689 _ _ t711 1 t727 _ ?side1 ?side2 A168.out).mono ?_);(case side1 => repeat (first|exact (Kd.R_reads' HO_695001.out).2.2|(with_reducible first|refine Kd.C_alloc ?_ _|refine Kd.C_drewN ?_ _|refine Kd.C_drew ?_)));(case side2 => exact (Kd.R_reads' HO_695001.out).2.1);rintro e w188 ⟨rfl,hb⟩;refine ⟨_,rfl,?_⟩;have n0_:=am (Kd.R_below (kup HO_681001.out) hb);have n1_:=am (Kd.R_below (kup HO_689001.out) hb);have n2_:=am (Kd.R_below (kup HO_695001.out) hb);have n3_:=am (Kd.R_below (kup HO_726001.out) hb);have n4_:=am (blk_below (bup BK665.out) hb);have n5_:=am (blk_below (bup BK680.out) hb);have n6_:=am (blk_below (bup BK688.out) hb);have n7_:=am (blk_below (bup BK694.out) hb);have n8_:=am (blk_below (bup BK725.out) hb);have n9_:=am (below_step (lup HB.out) hb);clear HO_681001 HO_689001 HO_695001 HO_726001 BK665 BK680 BK688 BK694 BK725 HB;have HO_681001:=n0_;have HO_689001:=n1_;have HO_695001:=n2_;have HO_726001:=n3_;have BK665:=n4_;have BK680:=n5_;have BK688:=n6_;have BK694:=n7_;have BK725:=n8_;have HB:=n9_;clear n0_ n1_ n2_ n3_ n4_ n5_ n6_ n7_ n8_ n9_;(try clear hb);(try clear hb2);(try clear hk);(try clear hi)))
                  go_ret
                  exact ⟨by first|rfl|(simp [errW_none,errW_some] <;> rfl)|(simp [*,errW_none,errW_some] <;> rfl),by repeat (first|(with_reducible first|exact HB.out|apply below_alloc|apply pw_below_drewN|apply below_drew1|refine below_set ?_ GE665.out|refine below_set ?_ GE680.out|refine below_set ?_ GE688.out|refine below_set ?_ GE694.out|refine below_set ?_ GE725.out)|exact HB.out)⟩
            ·rw [if_neg c122] at H
             have c122b0 : (t712 == t710) = false:=beq_eq_false_iff_ne.mpr c122
             have c122b1 : (t712 != t710) = true:=bne_iff_ne.mpr c122
             obtain rfl:=Option.some.inj H
             have hnb189:=NB694_665.out
             have hnc189:=NB665_694.out
             have hnb190:=NB694_680.out
             have hnc190:=NB680_694.out
             have hnb191:=NB694_688.out
             have hnc191:=NB688_694.out
             have hcz192_0 : wc.cell? ⟨gb694,0,none⟩ = some (.int .i64 t689):=(blk_cell BK694.out 0).trans rfl
             have hcz192_1 : wc.cell? ⟨gb694,1,none⟩ = some (.slice Ao51 t690.length co51):=(blk_cell BK694.out 1).trans rfl
             have hfz192_0:=blk_frozen BK694.out 0
             have hfz192_1:=blk_frozen BK694.out 1
             go_wp2_with (first|((with_reducible refine gate_callee (f:=28) rfl ?_);refine goesL_ (some 97) rfl rfl Tryd.func28 (by kernel_rfl) rfl #[.agg #[.int .i64 t689,.slice Ao51 t690.length co51],.int .i64 1] rfl (by (try simp only [List.map_toArray,List.map_cons,List.map_nil]);first|done|rfl|(simp only [List.length_drop,List.length_take];rfl)) ?_;(with_reducible refine (laws_markNursery.calls kj78 t689 (fun k_ => some k_ = (.slice Ao51 t690.length co51 : Value).ownBlock) (.slice Ao51 t690.length co51) t690 1 t710 t711 w _ ?side1 ?side2 A112.out).mono ?_);(case side1 => repeat (first|(with_reducible first|exact HB.out|apply below_alloc|apply pw_below_drewN|apply below_drew1|refine below_set ?_ GE665.out|refine below_set ?_ GE680.out|refine below_set ?_ GE688.out|refine below_set ?_ GE694.out)|exact HB.out));(case side2 => exact Kd.R_tight rfl HO_695001.out);rintro e w193 ⟨rfl,hy0,hb,hkp⟩;refine ⟨_,rfl,?_⟩;have n0_:=am (Kd.R_mono (ok':=fun k_ => some k_≠(.slice Ao43 t708.length co43 : Value).ownBlock∧some k_≠(.slice Ao51 t690.length co51 : Value).ownBlock) (Kd.R_keptB (HO_681001.out) hkp (fun k_ hk_ hs_ => by first|exact hk_.2 hs_|exact hk_ hs_)) (fun k_ hk_ => by first|exact ⟨hk_.1.1,hk_.1.2⟩|(simp only [and_assoc] at hk_;exact ⟨hk_.1,hk_.2.1⟩)));have n1_:=am (Kd.R_mono (ok':=fun k_ => some k_≠(.slice Ao33 t676.length co33 : Value).ownBlock∧some k_≠(.slice Ao51 t690.length co51 : Value).ownBlock) (Kd.R_keptB (HO_689001.out) hkp (fun k_ hk_ hs_ => by first|exact hk_.2 hs_|exact hk_ hs_)) (fun k_ hk_ => by first|exact ⟨hk_.1.1,hk_.1.2⟩|(simp only [and_assoc] at hk_;exact ⟨hk_.1,hk_.2.1⟩)));have n2_:=am (Kd.R_reok rfl hy0 (fun k_ e_ => HO_695001.out.1 k_ e_));have n3_:=am (blk_kept (bup BK665.out) hkp (fun hs_ => (fun e_ => (Kd.R_ne HO_695001.out BK665.out (by decide)) e_) hs_));have n4_:=am (blk_kept (bup BK680.out) hkp (fun hs_ => (fun e_ => (Kd.R_ne HO_695001.out BK680.out (by decide)) e_) hs_));have n5_:=am (blk_kept (bup BK688.out) hkp (fun hs_ => (fun e_ => (Kd.R_ne HO_695001.out BK688.out (by decide)) e_) hs_));have n6_:=am (blk_kept (bup BK694.out) hkp (fun hs_ => (fun e_ => (Kd.R_ne HO_695001.out BK694.out (by decide)) e_) hs_));have n7_:=am (hb);clear HO_681001 HO_689001 HO_695001 BK665 BK680 BK688 BK694 HB;have HO_681001:=n0_;have HO_689001:=n1_;have HO_695001:=n2_;have BK665:=n3_;have BK680:=n4_;have BK688:=n5_;have BK694:=n6_;have HB:=n7_;clear n0_ n1_ n2_ n3_ n4_ n5_ n6_ n7_;(try clear hb);(try clear hkp);(try clear hy0);have hcz194_0 : w193.cell? ⟨gb694,0,none⟩ = some (.int .i64 t689):=(blk_cell BK694.out 0).trans rfl;have hcz194_1 : w193.cell? ⟨gb694,1,none⟩ = some (.slice Ao51 t690.length co51):=(blk_cell BK694.out 1).trans rfl;have hfz194_0:=blk_frozen BK694.out 0;have hfz194_1:=blk_frozen BK694.out 1)|((with_reducible refine gate_callee (f:=40) rfl ?_);refine goesL_ (some 100) rfl rfl Tryd.func40 (by kernel_rfl) rfl #[.agg #[.int .i64 t689,.slice Ao51 t711.length co51],.int .i64 1] rfl (by (try simp only [List.map_toArray,List.map_cons,List.map_nil]);first|done|(rw [show t711.length = t690.length from (Kd.R_reads' HO_695001.out).1.symm] <;> rfl)|rfl|(simp only [List.length_drop,List.length_take];rfl)) ?_;(with_reducible refine (laws_heldNursery.calls kj78 t689 _ _ t711 1 t712 _ ?side1 ?side2 A113.out).mono ?_);(case side1 => repeat (first|exact (Kd.R_reads' HO_695001.out).2.2|(with_reducible first|refine Kd.C_alloc ?_ _|refine Kd.C_drewN ?_ _|refine Kd.C_drew ?_)));(case side2 => rw [show t711.length = t690.length from (Kd.R_reads' HO_695001.out).1.symm];exact (Kd.R_reads' HO_695001.out).2.1);rintro e w195 ⟨rfl,hb⟩;refine ⟨_,rfl,?_⟩;have n0_:=am (Kd.R_below (kup HO_681001.out) hb);have n1_:=am (Kd.R_below (kup HO_689001.out) hb);have n2_:=am (Kd.R_below (kup HO_695001.out) hb);have n3_:=am (blk_below (bup BK665.out) hb);have n4_:=am (blk_below (bup BK680.out) hb);have n5_:=am (blk_below (bup BK688.out) hb);have n6_:=am (blk_below (bup BK694.out) hb);have n7_:=am (below_step (lup HB.out) hb);clear HO_681001 HO_689001 HO_695001 BK665 BK680 BK688 BK694 HB;have HO_681001:=n0_;have HO_689001:=n1_;have HO_695001:=n2_;have BK665:=n3_;have BK680:=n4_;have BK688:=n5_;have BK694:=n6_;have HB:=n7_;clear n0_ n1_ n2_ n3_ n4_ n5_ n6_ n7_;(try clear hb);(try clear hb2);(try clear hk);(try clear hi)))
             go_ret
             exact ⟨by first|rfl|(simp [errW_none,errW_some] <;> rfl)|(simp [*,errW_none,errW_some] <;> rfl),by repeat (first|(with_reducible first|exact HB.out|apply below_alloc|apply pw_below_drewN|apply below_drew1|refine below_set ?_ GE665.out|refine below_set ?_ GE680.out|refine below_set ?_ GE688.out|refine below_set ?_ GE694.out)|exact HB.out)⟩
       ·replace c76:=Bool.eq_false_iff.mpr c76
        subst c76
        have H1 : (some false) = some r:=by rw [if_neg (show ¬ (false = true) by decide)] at H;exact H
        clear H
        have H:=H1
        clear H1
        obtain rfl:=Option.some.inj H
        try go_wp2_with (first|((with_reducible refine gate_callee (f:=19) rfl ?_);refine goesL_ (some 68) rfl rfl Tryd.func19 (by kernel_rfl) rfl #[.slice A0 l0.length c0] rfl (by (try simp only [List.map_toArray,List.map_cons,List.map_nil]);first|done|rfl|(simp only [List.length_drop,List.length_take];rfl)) ?_;(with_reducible refine (laws_toStringS.calls kj19 _ _ l0 t696 _ ?side1 ?side2 A71.out).mono ?_);(case side1 => repeat (first|exact (Kd.C_below HR0.out HB.out)|(with_reducible first|refine Kd.C_alloc ?_ _|refine Kd.C_drewN ?_ _|refine Kd.C_drew ?_)));(case side2 => exact HC0.out);rintro e w196 ⟨v697,rfl,ho0,hb⟩;refine ⟨_,rfl,?_⟩;have n0_:=am (Kd.R_elder' (kup HO_14.out) (Kd.R_base ho0) hb);have n1_:=am (Kd.R_below (kup HO_681001.out) hb);have n2_:=am (Kd.R_below (kup HO_689001.out) hb);have n3_:=am (Kd.R_below (kup HO_695001.out) hb);have n4_:=am (Kd.R_lower (Kd.R_new' ho0 (Kd.R_lt (kup HO_14.out))) (below_size (lup HB.out)));have n5_:=am (blk_below (bup BK665.out) hb);have n6_:=am (blk_below (bup BK680.out) hb);have n7_:=am (blk_below (bup BK688.out) hb);have n8_:=am (blk_below (bup BK694.out) hb);have n9_:=am (below_step (lup HB.out) hb);clear HO_14 HO_681001 HO_689001 HO_695001 BK665 BK680 BK688 BK694 HB;have HO_14:=n0_;have HO_681001:=n1_;have HO_689001:=n2_;have HO_695001:=n3_;have HO698:=n4_;have BK665:=n5_;have BK680:=n6_;have BK688:=n7_;have BK694:=n8_;have HB:=n9_;clear n0_ n1_ n2_ n3_ n4_ n5_ n6_ n7_ n8_ n9_;(try clear hb);(try clear hb2);(try clear hk);(try clear hi);(try clear ho0);obtain ⟨Ao197,co197,eo197⟩:=Kd.R_slice HO698.out;subst eo197)|((with_reducible refine gate_callee (f:=22) rfl ?_);refine goesL_ (some 69) rfl rfl Tryd.func22 (by kernel_rfl) rfl #[.slice Ao44 t681.length co44,.slice Ao197 t696.length co197] rfl (by (try simp only [List.map_toArray,List.map_cons,List.map_nil]);first|done|rfl|(simp only [List.length_drop,List.length_take];rfl)) ?_;(with_reducible refine (laws_eqStringS.calls kj19 _ _ t681 _ _ t696 true _ ?side1 ?side2 ?side3 ?side4 A72.out).mono ?_);(case side1 => repeat (first|exact (Kd.R_reads' HO_14.out).2.2|(with_reducible first|refine Kd.C_alloc ?_ _|refine Kd.C_drewN ?_ _|refine Kd.C_drew ?_)));(case side2 => exact (Kd.R_reads' HO_14.out).2.1);(case side3 => repeat (first|exact (Kd.R_reads' HO698.out).2.2|(with_reducible first|refine Kd.C_alloc ?_ _|refine Kd.C_drewN ?_ _|refine Kd.C_drew ?_)));(case side4 => exact (Kd.R_reads' HO698.out).2.1);rintro e w' ⟨rfl,⟨nd,rfl⟩⟩;refine ⟨_,rfl,?_⟩))
        (try (rw [drewN_self w196];generalize hq_ : World.drewN w196 _ = w196;have n0_ : Aside0 (Kd.R Kd.string 9 w196 w.heap.size (fun k_ => some k_≠(.slice Ao44 t681.length co44 : Value).ownBlock) (.slice Ao197 t696.length co197) t696):=⟨by rw [← hq_];exact (kup (Kd.R_mono HO698.out (fun _ hk => hk.2)))⟩;have n1_ : Aside0 (Kd.R Kd.string 9 w196 w.heap.size (fun k_ => some k_≠(.slice Ao197 t696.length co197 : Value).ownBlock) (.slice Ao44 t681.length co44) t681):=⟨by rw [← hq_];exact (kup (Kd.R_mono HO_14.out (fun _ hk => hk.2)))⟩;have n2_ : Aside0 (Kd.R (Kd.int .i64) 2 w196 w.heap.size (fun k_ => some k_≠(.slice Ao43 t685.length co43 : Value).ownBlock∧some k_≠(.slice Ao51 t690.length co51 : Value).ownBlock) (.slice Ao33 t676.length co33) t676):=⟨by rw [← hq_];exact (kup HO_681001.out)⟩;have n3_ : Aside0 (Kd.R (Kd.int .i64) 2 w196 w.heap.size (fun k_ => some k_≠(.slice Ao33 t676.length co33 : Value).ownBlock∧some k_≠(.slice Ao51 t690.length co51 : Value).ownBlock) (.slice Ao43 t685.length co43) t685):=⟨by rw [← hq_];exact (kup HO_689001.out)⟩;have n4_ : Aside0 (Kd.R (Kd.int .i64) 2 w196 w.heap.size (fun k_ => some k_≠(.slice Ao33 t676.length co33 : Value).ownBlock∧some k_≠(.slice Ao43 t685.length co43 : Value).ownBlock) (.slice Ao51 t690.length co51) t690):=⟨by rw [← hq_];exact (kup HO_695001.out)⟩;have n5_ : Aside0 (w196.heap[gb665]? = some (.cells #[.int .i64 a1_0,.slice A1_1 l1_1.length c1_1] 25 (0,0))):=⟨by rw [← hq_];exact (bup BK665.out)⟩;have n6_ : Aside0 (w196.heap[gb680]? = some (.cells #[.int .i64 t675,.slice Ao33 t676.length co33] 30 (0,0))):=⟨by rw [← hq_];exact (bup BK680.out)⟩;have n7_ : Aside0 (w196.heap[gb688]? = some (.cells #[.int .i64 t684,.slice Ao43 t685.length co43] 30 (0,0))):=⟨by rw [← hq_];exact (bup BK688.out)⟩;have n8_ : Aside0 (w196.heap[gb694]? = some (.cells #[.int .i64 t689,.slice Ao51 t690.length co51] 30 (0,0))):=⟨by rw [← hq_];exact (bup BK694.out)⟩;have n9_ : Aside0 (Below w.heap.size w w196):=⟨by rw [← hq_];exact (lup HB.out)⟩;clear HO698 HO_14 HO_681001 HO_689001 HO_695001 BK665 BK680 BK688 BK694 HB hq_;have HO698:=n0_;have HO_14:=n1_;have HO_681001:=n2_;have HO_689001:=n3_;have HO_695001:=n4_;have BK665:=n5_;have BK680:=n6_;have BK688:=n7_;have BK694:=n8_;have HB:=n9_;clear n0_ n1_ n2_ n3_ n4_ n5_ n6_ n7_ n8_ n9_))
        have n0_:=am (Kd.R_drew HO_14.out)
        have n1_:=am (Kd.R_drew HO_681001.out)
        have n2_:=am (Kd.R_drew HO_689001.out)
        have n3_:=am (Kd.R_drew HO_695001.out)
        have n4_:=am (Kd.R_drew HO698.out)
        have n5_:=am (blk_drew BK665.out)
        have n6_:=am (blk_drew BK680.out)
        have n7_:=am (blk_drew BK688.out)
        have n8_:=am (blk_drew BK694.out)
        have n9_:=am (below_drew1 HB.out)
        clear HO_14
        clear HO_681001
        clear HO_689001
        clear HO_695001
        clear HO698
        clear BK665
        clear BK680
        clear BK688
        clear BK694
        clear HB
        have HO_14:=n0_
        have HO_681001:=n1_
        have HO_689001:=n2_
        have HO_695001:=n3_
        have HO698:=n4_
        have BK665:=n5_
        have BK680:=n6_
        have BK688:=n7_
        have BK694:=n8_
        have HB:=n9_
        clear n0_ n1_ n2_ n3_ n4_ n5_ n6_ n7_ n8_ n9_
        refine start_ (n:=5) (S:=fun w' => w'.cell? ⟨gb688,0,none⟩ = some (.int .i64 t684)∧w'.cell? ⟨gb688,1,none⟩ = some (.slice Ao43 t685.length co43)∧w'.cell? ⟨gb665,0,none⟩ = some (.int .i64 a1_0)∧w'.cell? ⟨gb665,1,none⟩ = some (.slice A1_1 l1_1.length c1_1)) (ds:=[]) #[false,false,false,false,false] (by kernel_rfl) rfl rfl ⟨(blk_cell BK688.out 0).trans rfl,(blk_cell BK688.out 1).trans rfl,(blk_cell BK665.out 0).trans rfl,(blk_cell BK665.out 1).trans rfl⟩ (fun hHeld => ?_)
        generalize w196.drew = w198 at HO_14 HO_681001 HO_689001 HO_695001 HO698 BK665 BK680 BK688 BK694 HB hHeld ⊢
        refine take_ (i:=0) (N:=some 71) (v:=?_) (a':=?_) #[true,false,false,false,false] rfl rfl (by kernel_rfl) (fun _ _ _ h => h) (Or.inl ⟨by rfl,?_⟩) hHeld ?_ ?_
        rotate_left
        ·rintro w' ⟨s0,s1,s2,s3⟩
         go_simp
         with_reducible rfl
        rotate_left
        ·simp only [Act.put,List.setIfInBounds_toArray,List.set_cons_zero,List.set_cons_succ,i64_w,i32_w]
         rfl
        refine take_ (i:=1) (N:=some 72) (v:=?_) (a':=?_) #[true,true,false,false,false] rfl rfl (by kernel_rfl) (fun _ _ _ h => h) (Or.inl ⟨by rfl,?_⟩) hHeld ?_ ?_
        rotate_left
        ·rintro w' ⟨s0,s1,s2,s3⟩
         go_simp
         with_reducible rfl
        rotate_left
        ·simp only [Act.put,List.setIfInBounds_toArray,List.set_cons_zero,List.set_cons_succ,i64_w,i32_w]
         rfl
        refine one_ (i:=2) (N:=some 73) #[true,true,true,false,false] rfl rfl (by kernel_rfl) (by decide) (fun K hK => ?_)
        refine goes_ Tryd.func20 (by kernel_rfl) rfl #[.agg #[.int .i64 a1_0,.slice A1_1 l1_1.length c1_1]] (by rfl) rfl rfl (by (try simp only [List.map_toArray,List.map_cons,List.map_nil]);first|done|rfl|(simp only [List.length_drop,List.length_take];rfl)) ?_
        with_reducible refine (laws_toNursery.calls kj19 a1_0 _ _ l1_1 t700 t701 _ ?side1 ?side2 A74.out).mono ?_
        (case side1 => repeat (first|exact (Kd.C_below HR1_1.out HB.out)|(with_reducible first|refine Kd.C_alloc ?_ _|refine Kd.C_drewN ?_ _|refine Kd.C_drew ?_)))
        (case side2 => exact HC1_1.out)
        rintro e w199 ⟨v702,rfl,ho0,hb⟩
        refine ⟨_,rfl,?_⟩
        have n0_:=am (Kd.R_below (kup HO_14.out) hb)
        have n1_:=am (Kd.R_elder' (kup HO_681001.out) (Kd.R_base ho0) hb)
        have n2_:=am (Kd.R_elder' (kup HO_689001.out) (Kd.R_base ho0) hb)
        have n3_:=am (Kd.R_elder' (kup HO_695001.out) (Kd.R_base ho0) hb)
        have n4_:=am (Kd.R_below (kup HO698.out) hb)
        have n5_:=am (Kd.R_lower (Kd.R_new' (Kd.R_new' (Kd.R_new' ho0 (Kd.R_lt (kup HO_681001.out))) (Kd.R_lt (kup HO_689001.out))) (Kd.R_lt (kup HO_695001.out))) (below_size (lup HB.out)))
        have n6_:=am (blk_below (bup BK665.out) hb)
        have n7_:=am (blk_below (bup BK680.out) hb)
        have n8_:=am (blk_below (bup BK688.out) hb)
        have n9_:=am (blk_below (bup BK694.out) hb)
        have n10_:=am (below_step (lup HB.out) hb)
        clear HO_14
        clear HO_681001
        clear HO_689001
        clear HO_695001
        clear HO698
        clear BK665
        clear BK680
        clear BK688
        clear BK694
        clear HB
        have HO_14:=n0_
        have HO_681001:=n1_
        have HO_689001:=n2_
        have HO_695001:=n3_
        have HO698:=n4_
        have HO703:=n5_
        have BK665:=n6_
        have BK680:=n7_
        have BK688:=n8_
        have BK694:=n9_
        have HB:=n10_
        clear n0_ n1_ n2_ n3_ n4_ n5_ n6_ n7_ n8_ n9_ n10_
        (try clear hb)
        (try clear hb2)
        (try clear hk)
        (try clear hi)
        (try clear ho0)
        obtain ⟨Ao200,co200,eo200⟩:=Kd.R_slice HO703.out
        (first|subst eo200|(injection eo200 with f1_ f2_ f3_;have f4_:=f1_.symm;have f5_:=f3_.symm;clear f1_ f2_ f3_;subst f4_;subst f5_))
        refine hK.out _ _ ⟨(blk_cell BK688.out 0).trans rfl,(blk_cell BK688.out 1).trans rfl,(blk_cell BK665.out 0).trans rfl,(blk_cell BK665.out 1).trans rfl⟩ (fun hHeld => ?_)
        clear hK K
        refine norm_ (a':=?_) ?_ ?_
        rotate_left
        ·show Act.put _ (some 73) _ = _
         simp only [Act.put,List.setIfInBounds_toArray,List.set_cons_zero,List.set_cons_succ,i64_w,i32_w]
         rfl
        refine one_ (i:=3) (N:=some 74) #[true,true,true,true,false] rfl rfl (by kernel_rfl) (by decide) (fun K hK => ?_)
        refine goes_ Tryd.func23 (by kernel_rfl) rfl #[.agg #[.int .i64 t684,.slice Ao43 t685.length co43],.agg #[.int .i64 t700,.slice Ao200 t701.length co200]] (by rfl) rfl rfl (by (try simp only [List.map_toArray,List.map_cons,List.map_nil]);first|done|rfl|(simp only [List.length_drop,List.length_take];rfl)) ?_
        with_reducible refine (laws_eqNursery.calls kj19 t684 _ _ t685 t700 _ _ t701 false _ ?side1 ?side2 ?side3 ?side4 A75.out).mono ?_
        (case side1 => repeat (first|exact (Kd.R_reads' HO_689001.out).2.2|(with_reducible first|refine Kd.C_alloc ?_ _|refine Kd.C_drewN ?_ _|refine Kd.C_drew ?_)))
        (case side2 => exact (Kd.R_reads' HO_689001.out).2.1)
        (case side3 => repeat (first|exact (Kd.R_reads' HO703.out).2.2|(with_reducible first|refine Kd.C_alloc ?_ _|refine Kd.C_drewN ?_ _|refine Kd.C_drew ?_)))
        (case side4 => exact (Kd.R_reads' HO703.out).2.1)
        rintro e w201 ⟨rfl,hb⟩
        refine ⟨_,rfl,?_⟩
        have n0_:=am (Kd.R_below (kup HO_14.out) hb)
        have n1_:=am (Kd.R_below (kup HO_681001.out) hb)
        have n2_:=am (Kd.R_below (kup HO_689001.out) hb)
        have n3_:=am (Kd.R_below (kup HO_695001.out) hb)
        have n4_:=am (Kd.R_below (kup HO698.out) hb)
        have n5_:=am (Kd.R_below (kup HO703.out) hb)
        have n6_:=am (blk_below (bup BK665.out) hb)
        have n7_:=am (blk_below (bup BK680.out) hb)
        have n8_:=am (blk_below (bup BK688.out) hb)
        have n9_:=am (blk_below (bup BK694.out) hb)
        have n10_:=am (below_step (lup HB.out) hb)
        clear HO_14
        clear HO_681001
        clear HO_689001
        clear HO_695001
        clear HO698
        clear HO703
        clear BK665
        clear BK680
        clear BK688
        clear BK694
        clear HB
        have HO_14:=n0_
        have HO_681001:=n1_
        have HO_689001:=n2_
        have HO_695001:=n3_
        have HO698:=n4_
        have HO703:=n5_
        have BK665:=n6_
        have BK680:=n7_
        have BK688:=n8_
        have BK694:=n9_
        have HB:=n10_
        clear n0_ n1_ n2_ n3_ n4_ n5_ n6_ n7_ n8_ n9_ n10_
        (try clear hb)
        (try clear hb2)
        (try clear hk)
        (try clear hi)
        refine hK.out _ _ ⟨(blk_cell BK688.out 0).trans rfl,(blk_cell BK688.out 1).trans rfl,(blk_cell BK665.out 0).trans rfl,(blk_cell BK665.out 1).trans rfl⟩ (fun hHeld => ?_)
        clear hK K
        refine norm_ (a':=?_) ?_ ?_
        rotate_left
        ·show Act.put _ (some 74) _ = _
         simp only [Act.put,List.setIfInBounds_toArray,List.set_cons_zero,List.set_cons_succ,i64_w,i32_w]
         rfl
        refine pure_ (i:=4) (N:=some 75) (v:=?_) (a':=?_) #[true,true,true,true,true] rfl rfl (by kernel_rfl) (fun _ _ _ h => h) (Or.inl ⟨by rfl,?_⟩) ?_ ?_
        rotate_left
        ·intro w'
         go_simp
         with_reducible rfl
        rotate_left
        ·simp only [Act.put,List.setIfInBounds_toArray,List.set_cons_zero,List.set_cons_succ,i64_w,i32_w]
         rfl
        refine done_ (by kernel_rfl) ?_
        try go_wp2
        go_ret
        exact ⟨by first|rfl|(simp [errW_none,errW_some] <;> rfl)|(simp [*,errW_none,errW_some] <;> rfl),by repeat (first|(with_reducible first|exact HB.out|apply below_alloc|apply pw_below_drewN|apply below_drew1|refine below_set ?_ GE665.out|refine below_set ?_ GE680.out|refine below_set ?_ GE688.out|refine below_set ?_ GE694.out)|exact HB.out)⟩
      ·replace c73:=Bool.eq_false_iff.mpr c73
       subst c73
       have H1 : (some false) = some r:=by rw [if_neg (show ¬ (false = true) by decide)] at H;exact H
       clear H
       have H:=H1
       clear H1
       obtain rfl:=Option.some.inj H
       go_wp2_with (first|((with_reducible refine gate_callee (f:=19) rfl ?_);refine goesL_ (some 68) rfl rfl Tryd.func19 (by kernel_rfl) rfl #[.slice A0 l0.length c0] rfl (by (try simp only [List.map_toArray,List.map_cons,List.map_nil]);first|done|rfl|(simp only [List.length_drop,List.length_take];rfl)) ?_;(with_reducible refine (laws_toStringS.calls kj19 _ _ l0 t696 _ ?side1 ?side2 A71.out).mono ?_);(case side1 => repeat (first|exact (Kd.C_below HR0.out HB.out)|(with_reducible first|refine Kd.C_alloc ?_ _|refine Kd.C_drewN ?_ _|refine Kd.C_drew ?_)));(case side2 => exact HC0.out);rintro e w202 ⟨v697,rfl,ho0,hb⟩;refine ⟨_,rfl,?_⟩;have n0_:=am (Kd.R_elder' (kup HO_14.out) (Kd.R_base ho0) hb);have n1_:=am (Kd.R_below (kup HO_681001.out) hb);have n2_:=am (Kd.R_below (kup HO_689001.out) hb);have n3_:=am (Kd.R_below (kup HO_695001.out) hb);have n4_:=am (Kd.R_lower (Kd.R_new' ho0 (Kd.R_lt (kup HO_14.out))) (below_size (lup HB.out)));have n5_:=am (blk_below (bup BK665.out) hb);have n6_:=am (blk_below (bup BK680.out) hb);have n7_:=am (blk_below (bup BK688.out) hb);have n8_:=am (blk_below (bup BK694.out) hb);have n9_:=am (below_step (lup HB.out) hb);clear HO_14 HO_681001 HO_689001 HO_695001 BK665 BK680 BK688 BK694 HB;have HO_14:=n0_;have HO_681001:=n1_;have HO_689001:=n2_;have HO_695001:=n3_;have HO698:=n4_;have BK665:=n5_;have BK680:=n6_;have BK688:=n7_;have BK694:=n8_;have HB:=n9_;clear n0_ n1_ n2_ n3_ n4_ n5_ n6_ n7_ n8_ n9_;(try clear hb);(try clear hb2);(try clear hk);(try clear hi);(try clear ho0);obtain ⟨Ao203,co203,eo203⟩:=Kd.R_slice HO698.out;subst eo203)|((with_reducible refine gate_callee (f:=22) rfl ?_);refine goesL_ (some 69) rfl rfl Tryd.func22 (by kernel_rfl) rfl #[.slice Ao44 t681.length co44,.slice Ao203 t696.length co203] rfl (by (try simp only [List.map_toArray,List.map_cons,List.map_nil]);first|done|rfl|(simp only [List.length_drop,List.length_take];rfl)) ?_;(with_reducible refine (laws_eqStringS.calls kj19 _ _ t681 _ _ t696 false _ ?side1 ?side2 ?side3 ?side4 A72.out).mono ?_);(case side1 => repeat (first|exact (Kd.R_reads' HO_14.out).2.2|(with_reducible first|refine Kd.C_alloc ?_ _|refine Kd.C_drewN ?_ _|refine Kd.C_drew ?_)));(case side2 => exact (Kd.R_reads' HO_14.out).2.1);(case side3 => repeat (first|exact (Kd.R_reads' HO698.out).2.2|(with_reducible first|refine Kd.C_alloc ?_ _|refine Kd.C_drewN ?_ _|refine Kd.C_drew ?_)));(case side4 => exact (Kd.R_reads' HO698.out).2.1);rintro e w' ⟨rfl,⟨nd,rfl⟩⟩;refine ⟨_,rfl,?_⟩))
       go_ret
       exact ⟨by first|rfl|(simp [errW_none,errW_some] <;> rfl)|(simp [*,errW_none,errW_some] <;> rfl),by repeat (first|(with_reducible first|exact HB.out|apply below_alloc|apply pw_below_drewN|apply below_drew1|refine below_set ?_ GE665.out|refine below_set ?_ GE680.out|refine below_set ?_ GE688.out|refine below_set ?_ GE694.out)|exact HB.out)⟩

/-- THE ONE PURE STATEMENT of laws_FnExactYoungSet. -/
def laws_FnExactYoungSet.Pure : Prop := ∀ (l0 : List ByteArray) (a1_0 : Int) (l1_1 : List Int) (a2 : Int) (a3 : Int) (a4 : Int), (l0.length ≤ maxLen ∧ ∀ y0 ∈ l0, y0.size ≤ maxLen) → (Lit.int .i64 a1_0).wf = true → (l1_1.length ≤ maxLen ∧ ∀ y0 ∈ l1_1, (Lit.int .i64 y0).wf = true) → (Lit.int .i64 a2).wf = true → (Lit.int .i64 a3).wf = true → (Lit.int .i64 a4).wf = true → ∃ k, laws_FnExactYoungSet.f k l0 a1_0 l1_1 a2 a3 a4 = some true

end Go.Proofs.YtgfeafcgpeclcaaDoor.X
