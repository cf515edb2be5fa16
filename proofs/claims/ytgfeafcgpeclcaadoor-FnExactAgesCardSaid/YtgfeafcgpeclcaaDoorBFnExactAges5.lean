/- Texts of this claim. (Merged out of this claim's own texts.) -/
import Derived.Test.YtgfeafcgpeclcaaDoorBFnExactAges4
namespace Go.Proofs.YtgfeafcgpeclcaaDoor.X
open Go.RowKit Go.Proofs.YtgfeafcgpeclcaaDoorW.PrintWords Go.Proofs.YtgfeafcgpeclcaaDoorW.PrintLast Go.Proofs.YtgfeafcgpeclcaaDoorW.PrintMore
attribute [local go_sem] max2_int min2_int max_two min_two max_three min_three max_four min_four   -- for this text's walks alone
set_option linter.unusedVariables false
set_option linter.unusedSimpArgs false

set_option maxHeartbeats 8000000 in
set_option maxRecDepth 100000 in
theorem laws_FnExactAges.calls (k : Nat) (A0 : Option Addr) (c0 : Nat) (l0 : List ByteArray) (a1_0 : Int) (A1_1 : Option Addr) (c1_1 : Nat) (l1_1 : List Int) (r : Bool) (w : World) (hr0 : Kd.C Kd.string w A0 l0.length l0) (hc0 : l0.length ≤ c0) (hr1_1 : Kd.C (Kd.int .i64) w A1_1 l1_1.length l1_1) (hc1_1 : l1_1.length ≤ c1_1) (h : laws_FnExactAges.f k l0 a1_0 l1_1 = some r) :
  Calls Tryd.prog 5 #[.slice A0 l0.length c0,.agg #[.int .i64 a1_0,.slice A1_1 l1_1.length c1_1]] w fun e w' => e = .returned (.bool r)∧Below w.heap.size w w':=by
 have hu25:=Tryd.underlying25
 have hu30:=Tryd.underlying30
 have HR0:=Aside0.mk hr0
 have HC0:=Aside0.mk hc0
 clear hr0 hc0
 have HR1_1:=Aside0.mk hr1_1
 have HC1_1:=Aside0.mk hc1_1
 clear hr1_1 hc1_1
 have HB:=Aside0.mk (Below.refl w.heap.size w)
 have H : ((laws_szStringS.f k l0 1048576).bind fun t339 => (if t339 < 0 then (some true) else ((laws_szNursery.f a1_0 l1_1 t339).bind fun t340 => (if t340 < 0 then (some true) else ((laws_toStringS.f k l0).bind fun t341 => ((laws_toNursery.f k a1_0 l1_1).bind fun bt344 => ((spec_Ages.f k t341 bt344.1 bt344.2).bind fun t348 => ((laws_toStringS.f k l0).bind fun t351 => ((laws_toNursery.f k a1_0 l1_1).bind fun bt354 => ((impl_Ages.f k t351 bt354.1 bt354.2).bind fun t359 => ((laws_eqInt64S.f k t359 t348).bind fun t362 => (if t362 = true then ((laws_toStringS.f k l0).bind fun t363 => ((laws_eqStringS.f k t351 t363).bind fun t366 => (if t366 = true then ((laws_toNursery.f k a1_0 l1_1).bind fun bt367 => ((laws_eqNursery.f k bt354.1 bt354.2 bt367.1 bt367.2).bind fun t371 => (if t371 = true then ((laws_markStringS.f k t351 1).bind fun bt372 => ((laws_markNursery.f k bt354.1 bt354.2 bt372.1).bind fun bt374 => (if bt374.1 < 0 then (laws_FnExactAges.j0 k l0 t348 t359 true a1_0 l1_1) else ((laws_eqInt64S.f k t359 t348).bind fun t376 => (laws_FnExactAges.j0 k l0 t348 t359 (!t376) a1_0 l1_1))))) else (some false)))) else (some false)))) else (some false))))))))))))) = some r:=h
 clear h
 replace H:=Option.bind_eq_some_iff.mp H
 obtain ⟨t339,A30,H⟩:=H
 replace H : (if t339 < 0 then (some true) else ((laws_szNursery.f a1_0 l1_1 t339).bind fun t340 => (if t340 < 0 then (some true) else ((laws_toStringS.f k l0).bind fun t341 => ((laws_toNursery.f k a1_0 l1_1).bind fun bt344 => ((spec_Ages.f k t341 bt344.1 bt344.2).bind fun t348 => ((laws_toStringS.f k l0).bind fun t351 => ((laws_toNursery.f k a1_0 l1_1).bind fun bt354 => ((impl_Ages.f k t351 bt354.1 bt354.2).bind fun t359 => ((laws_eqInt64S.f k t359 t348).bind fun t362 => (if t362 = true then ((laws_toStringS.f k l0).bind fun t363 => ((laws_eqStringS.f k t351 t363).bind fun t366 => (if t366 = true then ((laws_toNursery.f k a1_0 l1_1).bind fun bt367 => ((laws_eqNursery.f k bt354.1 bt354.2 bt367.1 bt367.2).bind fun t371 => (if t371 = true then ((laws_markStringS.f k t351 1).bind fun bt372 => ((laws_markNursery.f k bt354.1 bt354.2 bt372.1).bind fun bt374 => (if bt374.1 < 0 then (laws_FnExactAges.j0 k l0 t348 t359 true a1_0 l1_1) else ((laws_eqInt64S.f k t359 t348).bind fun t376 => (laws_FnExactAges.j0 k l0 t348 t359 (!t376) a1_0 l1_1))))) else (some false)))) else (some false)))) else (some false)))))))))))) = some r:=H
 have A3:=Aside0.mk A30
 clear A30
 by_cases c4 : t339 < 0
 ·rw [if_pos c4] at H
  have c4b0 : decide (t339 < 0) = true:=decide_eq_true c4
  clear c4
  obtain rfl:=Option.some.inj H
  go_enter Tryd.func5,Tryd.ntmps5
  go_wp2_with (first|((with_reducible refine gate_dst (N:=3) rfl ?_);refine box_event ?hg (N:=3) ?hd (cs:=#[.int .i64 a1_0,.slice A1_1 l1_1.length c1_1]) (t:=25) ?hr ?_;(case hd => rfl);(case hg => rfl);(case hr => first|(go_simp;done)|(go_simp;rfl));intro gb338 hg w5 hbox hb;have n0_:=Aside0.mk (below_step (by repeat (first|(with_reducible first|exact HB.out|apply below_alloc|apply pw_below_drewN|apply below_drew1)|exact HB.out)) hb);have n1_:=Aside0.mk (hbox);have n2_:=Aside0.mk ((by rw [hg];exact (below_size (by repeat (first|(with_reducible first|exact HB.out|apply below_alloc|apply pw_below_drewN|apply below_drew1)|exact HB.out))) : w.heap.size ≤ gb338));have n3_:=Aside0.mk ((by rw [hg];exact (below_size (by repeat (first|(with_reducible first|exact HB.out|apply below_alloc|apply pw_below_drewN|apply below_drew1)|exact HB.out))) : w.heap.size ≤ gb338));clear HB;have HB:=n0_;have BK338:=n1_;have GW338:=n2_;have GE338:=n3_;clear n0_ n1_ n2_ n3_;clear hb hbox hg)|((with_reducible refine gate_callee (f:=16) rfl ?_);refine goesL_ (some 16) rfl rfl Tryd.func16 (by kernel_rfl) rfl #[.slice A0 l0.length c0,.int .i64 1048576] rfl (by (try simp only [List.map_toArray,List.map_cons,List.map_nil]);first|done|rfl|(simp only [List.length_drop,List.length_take];rfl)) ?_;(with_reducible refine (laws_szStringS.calls k _ _ l0 1048576 t339 _ ?side1 ?side2 A3.out).mono ?_);(case side1 => repeat (first|exact (Kd.C_below HR0.out HB.out)|(with_reducible first|refine Kd.C_alloc ?_ _|refine Kd.C_drewN ?_ _|refine Kd.C_drew ?_)));(case side2 => exact HC0.out);rintro e w' ⟨rfl,⟨nd,rfl⟩⟩;refine ⟨_,rfl,?_⟩))
  go_ret
  exact ⟨by first|rfl|(simp [errW_none,errW_some] <;> rfl)|(simp [*,errW_none,errW_some] <;> rfl),by repeat (first|(with_reducible first|exact HB.out|apply below_alloc|apply pw_below_drewN|apply below_drew1|refine below_set ?_ GE338.out)|exact HB.out)⟩
 ·rw [if_neg c4] at H
  have c4b0 : decide (t339 < 0) = false:=decide_eq_false c4
  clear c4
  replace H:=Option.bind_eq_some_iff.mp H
  obtain ⟨t340,A60,H⟩:=H
  replace H : (if t340 < 0 then (some true) else ((laws_toStringS.f k l0).bind fun t341 => ((laws_toNursery.f k a1_0 l1_1).bind fun bt344 => ((spec_Ages.f k t341 bt344.1 bt344.2).bind fun t348 => ((laws_toStringS.f k l0).bind fun t351 => ((laws_toNursery.f k a1_0 l1_1).bind fun bt354 => ((impl_Ages.f k t351 bt354.1 bt354.2).bind fun t359 => ((laws_eqInt64S.f k t359 t348).bind fun t362 => (if t362 = true then ((laws_toStringS.f k l0).bind fun t363 => ((laws_eqStringS.f k t351 t363).bind fun t366 => (if t366 = true then ((laws_toNursery.f k a1_0 l1_1).bind fun bt367 => ((laws_eqNursery.f k bt354.1 bt354.2 bt367.1 bt367.2).bind fun t371 => (if t371 = true then ((laws_markStringS.f k t351 1).bind fun bt372 => ((laws_markNursery.f k bt354.1 bt354.2 bt372.1).bind fun bt374 => (if bt374.1 < 0 then (laws_FnExactAges.j0 k l0 t348 t359 true a1_0 l1_1) else ((laws_eqInt64S.f k t359 t348).bind fun t376 => (laws_FnExactAges.j0 k l0 t348 t359 (!t376) a1_0 l1_1))))) else (some false)))) else (some false)))) else (some false)))))))))) = some r:=H
  have A6:=Aside0.mk A60
  clear A60
  by_cases c7 : t340 < 0
  ·rw [if_pos c7] at H
   have c7b0 : decide (t340 < 0) = true:=decide_eq_true c7
   clear c7
   obtain rfl:=Option.some.inj H
   go_enter Tryd.func5,Tryd.ntmps5
   go_wp2_with (first|((with_reducible refine gate_dst (N:=3) rfl ?_);refine box_event ?hg (N:=3) ?hd (cs:=#[.int .i64 a1_0,.slice A1_1 l1_1.length c1_1]) (t:=25) ?hr ?_;(case hd => rfl);(case hg => rfl);(case hr => first|(go_simp;done)|(go_simp;rfl));intro gb338 hg w8 hbox hb;have n0_:=Aside0.mk (below_step (by repeat (first|(with_reducible first|exact HB.out|apply below_alloc|apply pw_below_drewN|apply below_drew1)|exact HB.out)) hb);have n1_:=Aside0.mk (hbox);have n2_:=Aside0.mk ((by rw [hg];exact (below_size (by repeat (first|(with_reducible first|exact HB.out|apply below_alloc|apply pw_below_drewN|apply below_drew1)|exact HB.out))) : w.heap.size ≤ gb338));have n3_:=Aside0.mk ((by rw [hg];exact (below_size (by repeat (first|(with_reducible first|exact HB.out|apply below_alloc|apply pw_below_drewN|apply below_drew1)|exact HB.out))) : w.heap.size ≤ gb338));clear HB;have HB:=n0_;have BK338:=n1_;have GW338:=n2_;have GE338:=n3_;clear n0_ n1_ n2_ n3_;clear hb hbox hg)|((with_reducible refine gate_callee (f:=16) rfl ?_);refine goesL_ (some 16) rfl rfl Tryd.func16 (by kernel_rfl) rfl #[.slice A0 l0.length c0,.int .i64 1048576] rfl (by (try simp only [List.map_toArray,List.map_cons,List.map_nil]);first|done|rfl|(simp only [List.length_drop,List.length_take];rfl)) ?_;(with_reducible refine (laws_szStringS.calls k _ _ l0 1048576 t339 _ ?side1 ?side2 A3.out).mono ?_);(case side1 => repeat (first|exact (Kd.C_below HR0.out HB.out)|(with_reducible first|refine Kd.C_alloc ?_ _|refine Kd.C_drewN ?_ _|refine Kd.C_drew ?_)));(case side2 => exact HC0.out);rintro e w' ⟨rfl,⟨nd,rfl⟩⟩;refine ⟨_,rfl,?_⟩;have hcz9_0 : w8.cell? ⟨gb338,0,none⟩ = some (.int .i64 a1_0):=(blk_cell BK338.out 0).trans rfl;have hcz9_1 : w8.cell? ⟨gb338,1,none⟩ = some (.slice A1_1 l1_1.length c1_1):=(blk_cell BK338.out 1).trans rfl;have hfz9_0:=blk_frozen BK338.out 0;have hfz9_1:=blk_frozen BK338.out 1)|((with_reducible refine gate_callee (f:=17) rfl ?_);refine goesL_ (some 21) rfl rfl Tryd.func17 (by kernel_rfl) rfl #[.agg #[.int .i64 a1_0,.slice A1_1 l1_1.length c1_1],.int .i64 t339] rfl (by (try simp only [List.map_toArray,List.map_cons,List.map_nil]);first|done|rfl|(simp only [List.length_drop,List.length_take];rfl)) ?_;(with_reducible refine (laws_szNursery.calls a1_0 _ _ l1_1 t339 t340 _ ?side1 ?side2 A6.out).mono ?_);(case side1 => repeat (first|exact (Kd.C_below HR1_1.out (by repeat (first|(with_reducible first|exact HB.out|apply below_alloc|apply pw_below_drewN|apply below_drew1|refine below_set ?_ GE338.out)|exact HB.out)))|(with_reducible first|refine Kd.C_alloc ?_ _|refine Kd.C_drewN ?_ _|refine Kd.C_drew ?_)));(case side2 => exact HC1_1.out);rintro e w10 ⟨rfl,hb⟩;refine ⟨_,rfl,?_⟩;have n0_:=Aside0.mk (blk_below (g:=gb338) (o:=.cells #[.int .i64 a1_0,.slice A1_1 l1_1.length c1_1] 25 (0,0)) (by (with_reducible repeat (first|refine blk_drewN ?_ _|refine blk_drew ?_|refine blk_alloc ?_ _));exact BK338.out) hb);have n1_:=Aside0.mk (below_step (by repeat (first|(with_reducible first|exact HB.out|apply below_alloc|apply pw_below_drewN|apply below_drew1|refine below_set ?_ GE338.out)|exact HB.out)) hb);clear BK338 HB;have BK338:=n0_;have HB:=n1_;clear n0_ n1_;(try clear hb);(try clear hb2);(try clear hk);(try clear hi)))
   go_ret
   exact ⟨by first|rfl|(simp [errW_none,errW_some] <;> rfl)|(simp [*,errW_none,errW_some] <;> rfl),by repeat (first|(with_reducible first|exact HB.out|apply below_alloc|apply pw_below_drewN|apply below_drew1|refine below_set ?_ GE338.out)|exact HB.out)⟩
  ·rw [if_neg c7] at H
   have c7b0 : decide (t340 < 0) = false:=decide_eq_false c7
   clear c7
   replace H:=Option.bind_eq_some_iff.mp H
   obtain ⟨t341,A110,H⟩:=H
   replace H : ((laws_toNursery.f k a1_0 l1_1).bind fun bt344 => ((spec_Ages.f k t341 bt344.1 bt344.2).bind fun t348 => ((laws_toStringS.f k l0).bind fun t351 => ((laws_toNursery.f k a1_0 l1_1).bind fun bt354 => ((impl_Ages.f k t351 bt354.1 bt354.2).bind fun t359 => ((laws_eqInt64S.f k t359 t348).bind fun t362 => (if t362 = true then ((laws_toStringS.f k l0).bind fun t363 => ((laws_eqStringS.f k t351 t363).bind fun t366 => (if t366 = true then ((laws_toNursery.f k a1_0 l1_1).bind fun bt367 => ((laws_eqNursery.f k bt354.1 bt354.2 bt367.1 bt367.2).bind fun t371 => (if t371 = true then ((laws_markStringS.f k t351 1).bind fun bt372 => ((laws_markNursery.f k bt354.1 bt354.2 bt372.1).bind fun bt374 => (if bt374.1 < 0 then (laws_FnExactAges.j0 k l0 t348 t359 true a1_0 l1_1) else ((laws_eqInt64S.f k t359 t348).bind fun t376 => (laws_FnExactAges.j0 k l0 t348 t359 (!t376) a1_0 l1_1))))) else (some false)))) else (some false)))) else (some false)))))))) = some r:=H
   have A11:=Aside0.mk A110
   clear A110
   replace H:=Option.bind_eq_some_iff.mp H
   obtain ⟨⟨t344,t345⟩,A120,H⟩:=H
   replace H : ((spec_Ages.f k t341 t344 t345).bind fun t348 => ((laws_toStringS.f k l0).bind fun t351 => ((laws_toNursery.f k a1_0 l1_1).bind fun bt354 => ((impl_Ages.f k t351 bt354.1 bt354.2).bind fun t359 => ((laws_eqInt64S.f k t359 t348).bind fun t362 => (if t362 = true then ((laws_toStringS.f k l0).bind fun t363 => ((laws_eqStringS.f k t351 t363).bind fun t366 => (if t366 = true then ((laws_toNursery.f k a1_0 l1_1).bind fun bt367 => ((laws_eqNursery.f k bt354.1 bt354.2 bt367.1 bt367.2).bind fun t371 => (if t371 = true then ((laws_markStringS.f k t351 1).bind fun bt372 => ((laws_markNursery.f k bt354.1 bt354.2 bt372.1).bind fun bt374 => (if bt374.1 < 0 then (laws_FnExactAges.j0 k l0 t348 t359 true a1_0 l1_1) else ((laws_eqInt64S.f k t359 t348).bind fun t376 => (laws_FnExactAges.j0 k l0 t348 t359 (!t376) a1_0 l1_1))))) else (some false)))) else (some false)))) else (some false))))))) = some r:=H
   have A12:=Aside0.mk A120
   clear A120
   replace H:=Option.bind_eq_some_iff.mp H
   obtain ⟨t348,A130,H⟩:=H
   replace H : ((laws_toStringS.f k l0).bind fun t351 => ((laws_toNursery.f k a1_0 l1_1).bind fun bt354 => ((impl_Ages.f k t351 bt354.1 bt354.2).bind fun t359 => ((laws_eqInt64S.f k t359 t348).bind fun t362 => (if t362 = true then ((laws_toStringS.f k l0).bind fun t363 => ((laws_eqStringS.f k t351 t363).bind fun t366 => (if t366 = true then ((laws_toNursery.f k a1_0 l1_1).bind fun bt367 => ((laws_eqNursery.f k bt354.1 bt354.2 bt367.1 bt367.2).bind fun t371 => (if t371 = true then ((laws_markStringS.f k t351 1).bind fun bt372 => ((laws_markNursery.f k bt354.1 bt354.2 bt372.1).bind fun bt374 => (if bt374.1 < 0 then (laws_FnExactAges.j0 k l0 t348 t359 true a1_0 l1_1) else ((laws_eqInt64S.f k t359 t348).bind fun t376 => (laws_FnExactAges.j0 k l0 t348 t359 (!t376) a1_0 l1_1))))) else (some false)))) else (some false)))) else (some false)))))) = some r:=H
   have A13:=Aside0.mk A130
   clear A130
   replace H:=Option.bind_eq_some_iff.mp H
   obtain ⟨t351,A140,H⟩:=H
   replace H : ((laws_toNursery.f k a1_0 l1_1).bind fun bt354 => ((impl_Ages.f k t351 bt354.1 bt354.2).bind fun t359 => ((laws_eqInt64S.f k t359 t348).bind fun t362 => (if t362 = true then ((laws_toStringS.f k l0).bind fun t363 => ((laws_eqStringS.f k t351 t363).bind fun t366 => (if t366 = true then ((laws_toNursery.f k a1_0 l1_1).bind fun bt367 => ((laws_eqNursery.f k bt354.1 bt354.2 bt367.1 bt367.2).bind fun t371 => (if t371 = true then ((laws_markStringS.f k t351 1).bind fun bt372 => ((laws_markNursery.f k bt354.1 bt354.2 bt372.1).bind fun bt374 => (if bt374.1 < 0 then (laws_FnExactAges.j0 k l0 t348 t359 true a1_0 l1_1) else ((laws_eqInt64S.f k t359 t348).bind fun t376 => (laws_FnExactAges.j0 k l0 t348 t359 (!t376) a1_0 l1_1))))) else (some false)))) else (some false)))) else (some false))))) = some r:=H
   have A14:=Aside0.mk A140
   clear A140
   replace H:=Option.bind_eq_some_iff.mp H
   obtain ⟨⟨t354,t355⟩,A150,H⟩:=H
   replace H : ((impl_Ages.f k t351 t354 t355).bind fun t359 => ((laws_eqInt64S.f k t359 t348).bind fun t362 => (if t362 = true then ((laws_toStringS.f k l0).bind fun t363 => ((laws_eqStringS.f k t351 t363).bind fun t366 => (if t366 = true then ((laws_toNursery.f k a1_0 l1_1).bind fun bt367 => ((laws_eqNursery.f k t354 t355 bt367.1 bt367.2).bind fun t371 => (if t371 = true then ((laws_markStringS.f k t351 1).bind fun bt372 => ((laws_markNursery.f k t354 t355 bt372.1).bind fun bt374 => (if bt374.1 < 0 then (laws_FnExactAges.j0 k l0 t348 t359 true a1_0 l1_1) else ((laws_eqInt64S.f k t359 t348).bind fun t376 => (laws_FnExactAges.j0 k l0 t348 t359 (!t376) a1_0 l1_1))))) else (some false)))) else (some false)))) else (some false)))) = some r:=H
   have A15:=Aside0.mk A150
   clear A150
   replace H:=Option.bind_eq_some_iff.mp H
   obtain ⟨t359,A160,H⟩:=H
   replace H : ((laws_eqInt64S.f k t359 t348).bind fun t362 => (if t362 = true then ((laws_toStringS.f k l0).bind fun t363 => ((laws_eqStringS.f k t351 t363).bind fun t366 => (if t366 = true then ((laws_toNursery.f k a1_0 l1_1).bind fun bt367 => ((laws_eqNursery.f k t354 t355 bt367.1 bt367.2).bind fun t371 => (if t371 = true then ((laws_markStringS.f k t351 1).bind fun bt372 => ((laws_markNursery.f k t354 t355 bt372.1).bind fun bt374 => (if bt374.1 < 0 then (laws_FnExactAges.j0 k l0 t348 t359 true a1_0 l1_1) else ((laws_eqInt64S.f k t359 t348).bind fun t376 => (laws_FnExactAges.j0 k l0 t348 t359 (!t376) a1_0 l1_1))))) else (some false)))) else (some false)))) else (some false))) = some r:=H
   have A16:=Aside0.mk A160
   clear A160
   replace H:=Option.bind_eq_some_iff.mp H
   obtain ⟨t362,A170,H⟩:=H
   replace H : (if t362 = true then ((laws_toStringS.f k l0).bind fun t363 => ((laws_eqStringS.f k t351 t363).bind fun t366 => (if t366 = true then ((laws_toNursery.f k a1_0 l1_1).bind fun bt367 => ((laws_eqNursery.f k t354 t355 bt367.1 bt367.2).bind fun t371 => (if t371 = true then ((laws_markStringS.f k t351 1).bind fun bt372 => ((laws_markNursery.f k t354 t355 bt372.1).bind fun bt374 => (if bt374.1 < 0 then (laws_FnExactAges.j0 k l0 t348 t359 true a1_0 l1_1) else ((laws_eqInt64S.f k t359 t348).bind fun t376 => (laws_FnExactAges.j0 k l0 t348 t359 (!t376) a1_0 l1_1))))) else (some false)))) else (some false)))) else (some false)) = some r:=H
   have A17:=Aside0.mk A170
   clear A170
   by_cases c18 : t362 = true
   ·subst c18
    have H1 : ((laws_toStringS.f k l0).bind fun t363 => ((laws_eqStringS.f k t351 t363).bind fun t366 => (if t366 = true then ((laws_toNursery.f k a1_0 l1_1).bind fun bt367 => ((laws_eqNursery.f k t354 t355 bt367.1 bt367.2).bind fun t371 => (if t371 = true then ((laws_markStringS.f k t351 1).bind fun bt372 => ((laws_markNursery.f k t354 t355 bt372.1).bind fun bt374 => (if bt374.1 < 0 then (laws_FnExactAges.j0 k l0 t348 t359 true a1_0 l1_1) else ((laws_eqInt64S.f k t359 t348).bind fun t376 => (laws_FnExactAges.j0 k l0 t348 t359 (!t376) a1_0 l1_1))))) else (some false)))) else (some false)))) = some r:=by rw [if_pos rfl] at H;exact H
    clear H
    have H:=H1
    clear H1
    replace H:=Option.bind_eq_some_iff.mp H
    obtain ⟨t363,A190,H⟩:=H
    replace H : ((laws_eqStringS.f k t351 t363).bind fun t366 => (if t366 = true then ((laws_toNursery.f k a1_0 l1_1).bind fun bt367 => ((laws_eqNursery.f k t354 t355 bt367.1 bt367.2).bind fun t371 => (if t371 = true then ((laws_markStringS.f k t351 1).bind fun bt372 => ((laws_markNursery.f k t354 t355 bt372.1).bind fun bt374 => (if bt374.1 < 0 then (laws_FnExactAges.j0 k l0 t348 t359 true a1_0 l1_1) else ((laws_eqInt64S.f k t359 t348).bind fun t376 => (laws_FnExactAges.j0 k l0 t348 t359 (!t376) a1_0 l1_1))))) else (some false)))) else (some false))) = some r:=H
    have A19:=Aside0.mk A190
    clear A190
    replace H:=Option.bind_eq_some_iff.mp H
    obtain ⟨t366,A200,H⟩:=H
    replace H : (if t366 = true then ((laws_toNursery.f k a1_0 l1_1).bind fun bt367 => ((laws_eqNursery.f k t354 t355 bt367.1 bt367.2).bind fun t371 => (if t371 = true then ((laws_markStringS.f k t351 1).bind fun bt372 => ((laws_markNursery.f k t354 t355 bt372.1).bind fun bt374 => (if bt374.1 < 0 then (laws_FnExactAges.j0 k l0 t348 t359 true a1_0 l1_1) else ((laws_eqInt64S.f k t359 t348).bind fun t376 => (laws_FnExactAges.j0 k l0 t348 t359 (!t376) a1_0 l1_1))))) else (some false)))) else (some false)) = some r:=H
    have A20:=Aside0.mk A200
    clear A200
    by_cases c21 : t366 = true
    ·subst c21
     have H1 : ((laws_toNursery.f k a1_0 l1_1).bind fun bt367 => ((laws_eqNursery.f k t354 t355 bt367.1 bt367.2).bind fun t371 => (if t371 = true then ((laws_markStringS.f k t351 1).bind fun bt372 => ((laws_markNursery.f k t354 t355 bt372.1).bind fun bt374 => (if bt374.1 < 0 then (laws_FnExactAges.j0 k l0 t348 t359 true a1_0 l1_1) else ((laws_eqInt64S.f k t359 t348).bind fun t376 => (laws_FnExactAges.j0 k l0 t348 t359 (!t376) a1_0 l1_1))))) else (some false)))) = some r:=by rw [if_pos rfl] at H;exact H
     clear H
     have H:=H1
     clear H1
     replace H:=Option.bind_eq_some_iff.mp H
     obtain ⟨⟨t367,t368⟩,A220,H⟩:=H
     replace H : ((laws_eqNursery.f k t354 t355 t367 t368).bind fun t371 => (if t371 = true then ((laws_markStringS.f k t351 1).bind fun bt372 => ((laws_markNursery.f k t354 t355 bt372.1).bind fun bt374 => (if bt374.1 < 0 then (laws_FnExactAges.j0 k l0 t348 t359 true a1_0 l1_1) else ((laws_eqInt64S.f k t359 t348).bind fun t376 => (laws_FnExactAges.j0 k l0 t348 t359 (!t376) a1_0 l1_1))))) else (some false))) = some r:=H
     have A22:=Aside0.mk A220
     clear A220
     replace H:=Option.bind_eq_some_iff.mp H
     obtain ⟨t371,A230,H⟩:=H
     replace H : (if t371 = true then ((laws_markStringS.f k t351 1).bind fun bt372 => ((laws_markNursery.f k t354 t355 bt372.1).bind fun bt374 => (if bt374.1 < 0 then (laws_FnExactAges.j0 k l0 t348 t359 true a1_0 l1_1) else ((laws_eqInt64S.f k t359 t348).bind fun t376 => (laws_FnExactAges.j0 k l0 t348 t359 (!t376) a1_0 l1_1))))) else (some false)) = some r:=H
     have A23:=Aside0.mk A230
     clear A230
     by_cases c24 : t371 = true
     ·subst c24
      have H1 : ((laws_markStringS.f k t351 1).bind fun bt372 => ((laws_markNursery.f k t354 t355 bt372.1).bind fun bt374 => (if bt374.1 < 0 then (laws_FnExactAges.j0 k l0 t348 t359 true a1_0 l1_1) else ((laws_eqInt64S.f k t359 t348).bind fun t376 => (laws_FnExactAges.j0 k l0 t348 t359 (!t376) a1_0 l1_1))))) = some r:=by rw [if_pos rfl] at H;exact H
      clear H
      have H:=H1
      clear H1
      replace H:=Option.bind_eq_some_iff.mp H
      obtain ⟨⟨t372,t373⟩,A250,H⟩:=H
      replace H : ((laws_markNursery.f k t354 t355 t372).bind fun bt374 => (if bt374.1 < 0 then (laws_FnExactAges.j0 k l0 t348 t359 true a1_0 l1_1) else ((laws_eqInt64S.f k t359 t348).bind fun t376 => (laws_FnExactAges.j0 k l0 t348 t359 (!t376) a1_0 l1_1)))) = some r:=H
      have A25:=Aside0.mk A250
      clear A250
      replace H:=Option.bind_eq_some_iff.mp H
      obtain ⟨⟨t374,t375⟩,A260,H⟩:=H
      replace H : (if t374 < 0 then (laws_FnExactAges.j0 k l0 t348 t359 true a1_0 l1_1) else ((laws_eqInt64S.f k t359 t348).bind fun t376 => (laws_FnExactAges.j0 k l0 t348 t359 (!t376) a1_0 l1_1))) = some r:=H
      have A26:=Aside0.mk A260
      clear A260
      have HC27:=Aside0.mk H
      clear H
      go_enter Tryd.func5,Tryd.ntmps5
      try go_wp2_with (first|((with_reducible refine gate_dst (N:=3) rfl ?_);refine box_event ?hg (N:=3) ?hd (cs:=#[.int .i64 a1_0,.slice A1_1 l1_1.length c1_1]) (t:=25) ?hr ?_;(case hd => rfl);(case hg => rfl);(case hr => first|(go_simp;done)|(go_simp;rfl));intro gb338 hg w28 hbox hb;have n0_:=Aside0.mk (below_step (by repeat (first|(with_reducible first|exact HB.out|apply below_alloc|apply pw_below_drewN|apply below_drew1)|exact HB.out)) hb);have n1_:=Aside0.mk (hbox);have n2_:=Aside0.mk ((by rw [hg];exact (below_size (by repeat (first|(with_reducible first|exact HB.out|apply below_alloc|apply pw_below_drewN|apply below_drew1)|exact HB.out))) : w.heap.size ≤ gb338));have n3_:=Aside0.mk ((by rw [hg];exact (below_size (by repeat (first|(with_reducible first|exact HB.out|apply below_alloc|apply pw_below_drewN|apply below_drew1)|exact HB.out))) : w.heap.size ≤ gb338));clear HB;have HB:=n0_;have BK338:=n1_;have GW338:=n2_;have GE338:=n3_;clear n0_ n1_ n2_ n3_;clear hb hbox hg)|((with_reducible refine gate_callee (f:=16) rfl ?_);refine goesL_ (some 16) rfl rfl Tryd.func16 (by kernel_rfl) rfl #[.slice A0 l0.length c0,.int .i64 1048576] rfl (by (try simp only [List.map_toArray,List.map_cons,List.map_nil]);first|done|rfl|(simp only [List.length_drop,List.length_take];rfl)) ?_;(with_reducible refine (laws_szStringS.calls k _ _ l0 1048576 t339 _ ?side1 ?side2 A3.out).mono ?_);(case side1 => repeat (first|exact (Kd.C_below HR0.out HB.out)|(with_reducible first|refine Kd.C_alloc ?_ _|refine Kd.C_drewN ?_ _|refine Kd.C_drew ?_)));(case side2 => exact HC0.out);rintro e w' ⟨rfl,⟨nd,rfl⟩⟩;refine ⟨_,rfl,?_⟩;(try (rw [drewN_self w28];generalize hq_ : World.drewN w28 _ = w28;have n0_ : Aside0 (w28.heap[gb338]? = some (.cells #[.int .i64 a1_0,.slice A1_1 l1_1.length c1_1] 25 (0,0))):=⟨by rw [← hq_];exact (by (with_reducible repeat (first|refine blk_drewN ?_ _|refine blk_drew ?_|refine blk_alloc ?_ _));exact BK338.out)⟩;have n1_ : Aside0 (Below w.heap.size w w28):=⟨by rw [← hq_];exact (by repeat (first|(with_reducible first|exact HB.out|apply below_alloc|apply pw_below_drewN|apply below_drew1|refine below_set ?_ GE338.out)|exact HB.out))⟩;clear BK338 HB hq_;have BK338:=n0_;have HB:=n1_;clear n0_ n1_));have hcz29_0 : w28.cell? ⟨gb338,0,none⟩ = some (.int .i64 a1_0):=(blk_cell BK338.out 0).trans rfl;have hcz29_1 : w28.cell? ⟨gb338,1,none⟩ = some (.slice A1_1 l1_1.length c1_1):=(blk_cell BK338.out 1).trans rfl;have hfz29_0:=blk_frozen BK338.out 0;have hfz29_1:=blk_frozen BK338.out 1)|((with_reducible refine gate_callee (f:=17) rfl ?_);refine goesL_ (some 21) rfl rfl Tryd.func17 (by kernel_rfl) rfl #[.agg #[.int .i64 a1_0,.slice A1_1 l1_1.length c1_1],.int .i64 t339] rfl (by (try simp only [List.map_toArray,List.map_cons,List.map_nil]);first|done|rfl|(simp only [List.length_drop,List.length_take];rfl)) ?_;(with_reducible refine (laws_szNursery.calls a1_0 _ _ l1_1 t339 t340 _ ?side1 ?side2 A6.out).mono ?_);(case side1 => repeat (first|exact (Kd.C_below HR1_1.out HB.out)|(with_reducible first|refine Kd.C_alloc ?_ _|refine Kd.C_drewN ?_ _|refine Kd.C_drew ?_)));(case side2 => exact HC1_1.out);rintro e w30 ⟨rfl,hb⟩;refine ⟨_,rfl,?_⟩;have n0_:=Aside0.mk (blk_below (g:=gb338) (o:=.cells #[.int .i64 a1_0,.slice A1_1 l1_1.length c1_1] 25 (0,0)) (by (with_reducible repeat (first|refine blk_drewN ?_ _|refine blk_drew ?_|refine blk_alloc ?_ _));exact BK338.out) hb);have n1_:=Aside0.mk (below_step (by repeat (first|(with_reducible first|exact HB.out|apply below_alloc|apply pw_below_drewN|apply below_drew1|refine below_set ?_ GE338.out)|exact HB.out)) hb);clear BK338 HB;have BK338:=n0_;have HB:=n1_;clear n0_ n1_;(try clear hb);(try clear hb2);(try clear hk);(try clear hi)))
      have n0_:=Aside0.mk (blk_drew BK338.out)
      have n1_:=Aside0.mk (below_drew1 HB.out)
      clear BK338
      clear HB
      have BK338:=n0_
      have HB:=n1_
      clear n0_ n1_
      refine start_ (n:=6) (S:=fun w' => w'.cell? ⟨gb338,0,none⟩ = some (.int .i64 a1_0)∧w'.cell? ⟨gb338,1,none⟩ = some (.slice A1_1 l1_1.length c1_1)) (ds:=[]) #[false,false,false,false,false,false] (by kernel_rfl) rfl rfl ⟨(blk_cell BK338.out 0).trans rfl,(blk_cell BK338.out 1).trans rfl⟩ (fun hHeld => ?_)
      generalize w30.drew = w31 at BK338 HB hHeld ⊢
      refine pure_ (i:=0) (N:=some 24) (v:=?_) (a':=?_) #[true,false,false,false,false,false] rfl rfl (by kernel_rfl) (fun _ _ _ h => h) (Or.inl ⟨by rfl,?_⟩) ?_ ?_
      rotate_left
      ·intro w'
       go_simp
       with_reducible rfl
      rotate_left
      ·simp only [Act.put,List.setIfInBounds_toArray,List.set_cons_zero,List.set_cons_succ,i64_w,i32_w]
       rfl
      refine take_ (i:=2) (N:=some 26) (v:=?_) (a':=?_) #[true,false,true,false,false,false] rfl rfl (by kernel_rfl) (fun _ _ _ h => h) (Or.inl ⟨by rfl,?_⟩) hHeld ?_ ?_
      rotate_left
      ·rintro w' ⟨s0,s1⟩
       go_simp
       with_reducible rfl
      rotate_left
      ·simp only [Act.put,List.setIfInBounds_toArray,List.set_cons_zero,List.set_cons_succ,i64_w,i32_w]
       rfl
      refine one_ (i:=1) (N:=some 25) #[true,true,true,false,false,false] rfl rfl (by kernel_rfl) (by decide) (fun K hK => ?_)
      refine goes_ Tryd.func19 (by kernel_rfl) rfl #[.slice A0 l0.length c0] (by rfl) rfl rfl (by (try simp only [List.map_toArray,List.map_cons,List.map_nil]);first|done|rfl|(simp only [List.length_drop,List.length_take];rfl)) ?_
      with_reducible refine (laws_toStringS.calls k _ _ l0 t341 _ ?side1 ?side2 A11.out).mono ?_
      (case side1 => repeat (first|exact (Kd.C_below HR0.out HB.out)|(with_reducible first|refine Kd.C_alloc ?_ _|refine Kd.C_drewN ?_ _|refine Kd.C_drew ?_)))
      (case side2 => exact HC0.out)
      rintro e w32 ⟨v342,rfl,ho0,hb⟩
      refine ⟨_,rfl,?_⟩
      have n0_:=Aside0.mk (Kd.R_lower ho0 (below_size (by repeat (first|(with_reducible first|exact HB.out|apply below_alloc|apply pw_below_drewN|apply below_drew1|refine below_set ?_ GE338.out)|exact HB.out))))
      have n1_:=Aside0.mk (blk_below (g:=gb338) (o:=.cells #[.int .i64 a1_0,.slice A1_1 l1_1.length c1_1] 25 (0,0)) (by (with_reducible repeat (first|refine blk_drewN ?_ _|refine blk_drew ?_|refine blk_alloc ?_ _));exact BK338.out) hb)
      have n2_:=Aside0.mk (below_step (by repeat (first|(with_reducible first|exact HB.out|apply below_alloc|apply pw_below_drewN|apply below_drew1|refine below_set ?_ GE338.out)|exact HB.out)) hb)
      clear BK338
      clear HB
      have HO343:=n0_
      have BK338:=n1_
      have HB:=n2_
      clear n0_ n1_ n2_
      (try clear hb)
      (try clear hb2)
      (try clear hk)
      (try clear hi)
      (try clear ho0)
      refine hK.out _ _ ⟨(blk_cell BK338.out 0).trans rfl,(blk_cell BK338.out 1).trans rfl⟩ (fun hHeld => ?_)
      clear hK K
      refine norm_ (a':=?_) ?_ ?_
      rotate_left
      ·show Act.put _ (some 25) _ = _
       simp only [Act.put,List.setIfInBounds_toArray,List.set_cons_zero,List.set_cons_succ,i64_w,i32_w]
       rfl
      refine one_ (i:=3) (N:=some 27) #[true,true,true,true,false,false] rfl rfl (by kernel_rfl) (by decide) (fun K hK => ?_)
      refine goes_ Tryd.func20 (by kernel_rfl) rfl #[.agg #[.int .i64 a1_0,.slice A1_1 l1_1.length c1_1]] (by rfl) rfl rfl (by (try simp only [List.map_toArray,List.map_cons,List.map_nil]);first|done|rfl|(simp only [List.length_drop,List.length_take];rfl)) ?_
      with_reducible refine (laws_toNursery.calls k a1_0 _ _ l1_1 t344 t345 _ ?side1 ?side2 A12.out).mono ?_
      (case side1 => repeat (first|exact (Kd.C_below HR1_1.out HB.out)|(with_reducible first|refine Kd.C_alloc ?_ _|refine Kd.C_drewN ?_ _|refine Kd.C_drew ?_)))
      (case side2 => exact HC1_1.out)
      rintro e w33 ⟨v346,rfl,ho0,hb⟩
      refine ⟨_,rfl,?_⟩
      have n0_:=Aside0.mk (Kd.R_below (by (with_reducible repeat (first|apply Kd.R_alloc|apply Kd.R_drewN|apply Kd.R_drew));exact HO343.out) hb)
      have n1_:=Aside0.mk (Kd.R_lower ho0 (below_size (by repeat (first|(with_reducible first|exact HB.out|apply below_alloc|apply pw_below_drewN|apply below_drew1|refine below_set ?_ GE338.out)|exact HB.out))))
      have n2_:=Aside0.mk (blk_below (g:=gb338) (o:=.cells #[.int .i64 a1_0,.slice A1_1 l1_1.length c1_1] 25 (0,0)) (by (with_reducible repeat (first|refine blk_drewN ?_ _|refine blk_drew ?_|refine blk_alloc ?_ _));exact BK338.out) hb)
      have n3_:=Aside0.mk (below_step (by repeat (first|(with_reducible first|exact HB.out|apply below_alloc|apply pw_below_drewN|apply below_drew1|refine below_set ?_ GE338.out)|exact HB.out)) hb)
      clear HO343
      clear BK338
      clear HB
      have HO343:=n0_
      have HO347:=n1_
      have BK338:=n2_
      have HB:=n3_
      clear n0_ n1_ n2_ n3_
      (try clear hb)
      (try clear hb2)
      (try clear hk)
      (try clear hi)
      (try clear ho0)
      obtain ⟨Ao34,co34,eo34⟩:=Kd.R_slice HO343.out
      (first|subst eo34|(injection eo34 with f1_ f2_ f3_;have f4_:=f1_.symm;have f5_:=f3_.symm;clear f1_ f2_ f3_;subst f4_;subst f5_))
      obtain ⟨Ao35,co35,eo35⟩:=Kd.R_slice HO347.out
      (first|subst eo35|(injection eo35 with f1_ f2_ f3_;have f4_:=f1_.symm;have f5_:=f3_.symm;clear f1_ f2_ f3_;subst f4_;subst f5_))
      refine hK.out _ _ ⟨(blk_cell BK338.out 0).trans rfl,(blk_cell BK338.out 1).trans rfl⟩ (fun hHeld => ?_)
      clear hK K
      refine norm_ (a':=?_) ?_ ?_
      rotate_left
      ·show Act.put _ (some 27) _ = _
       simp only [Act.put,List.setIfInBounds_toArray,List.set_cons_zero,List.set_cons_succ,i64_w,i32_w]
       rfl
      refine one_ (i:=4) (N:=some 28) #[true,true,true,true,true,false] rfl rfl (by kernel_rfl) (by decide) (fun K hK => ?_)
      refine goes_ Tryd.func31 (by kernel_rfl) rfl #[.slice Ao34 t341.length co34,.agg #[.int .i64 t344,.slice Ao35 t345.length co35]] (by rfl) rfl rfl (by (try simp only [List.map_toArray,List.map_cons,List.map_nil]);first|done|rfl|(simp only [List.length_drop,List.length_take];rfl)) ?_
      with_reducible refine (spec_Ages.calls k _ _ t341 t344 _ _ t345 t348 _ ?side1 ?side2 ?side3 ?side4 A13.out).mono ?_
      (case side1 => repeat (first|exact (Kd.R_reads' HO343.out).2.2|(with_reducible first|refine Kd.C_alloc ?_ _|refine Kd.C_drewN ?_ _|refine Kd.C_drew ?_)))
      (case side2 => exact (Kd.R_reads' HO343.out).2.1)
      (case side3 => repeat (first|exact (Kd.R_reads' HO347.out).2.2|(with_reducible first|refine Kd.C_alloc ?_ _|refine Kd.C_drewN ?_ _|refine Kd.C_drew ?_)))
      (case side4 => exact (Kd.R_reads' HO347.out).2.1)
      rintro e w36 ⟨v349,rfl,ho0,hb⟩
      refine ⟨_,rfl,?_⟩
      have n0_:=Aside0.mk (Kd.R_below (by (with_reducible repeat (first|apply Kd.R_alloc|apply Kd.R_drewN|apply Kd.R_drew));exact HO343.out) hb)
      have n1_:=Aside0.mk (Kd.R_elder' (by (with_reducible repeat (first|apply Kd.R_alloc|apply Kd.R_drewN|apply Kd.R_drew));exact HO347.out) (Kd.R_base ho0) hb)
      have n2_:=Aside0.mk (Kd.R_lower (Kd.R_new' ho0 (Kd.R_lt (by (with_reducible repeat (first|apply Kd.R_alloc|apply Kd.R_drewN|apply Kd.R_drew));exact HO347.out))) (below_size (by repeat (first|(with_reducible first|exact HB.out|apply below_alloc|apply pw_below_drewN|apply below_drew1|refine below_set ?_ GE338.out)|exact HB.out))))
      have n3_:=Aside0.mk (blk_below (g:=gb338) (o:=.cells #[.int .i64 a1_0,.slice A1_1 l1_1.length c1_1] 25 (0,0)) (by (with_reducible repeat (first|refine blk_drewN ?_ _|refine blk_drew ?_|refine blk_alloc ?_ _));exact BK338.out) hb)
      have n4_:=Aside0.mk (below_step (by repeat (first|(with_reducible first|exact HB.out|apply below_alloc|apply pw_below_drewN|apply below_drew1|refine below_set ?_ GE338.out)|exact HB.out)) hb)
      clear HO343
      clear HO347
      clear BK338
      clear HB
      have HO343:=n0_
      have HO347:=n1_
      have HO350:=n2_
      have BK338:=n3_
      have HB:=n4_
      clear n0_ n1_ n2_ n3_ n4_
      (try clear hb)
      (try clear hb2)
      (try clear hk)
      (try clear hi)
      (try clear ho0)
      refine hK.out _ _ ⟨(blk_cell BK338.out 0).trans rfl,(blk_cell BK338.out 1).trans rfl⟩ (fun hHeld => ?_)
      clear hK K
      refine norm_ (a':=?_) ?_ ?_
      rotate_left
      ·show Act.put _ (some 28) _ = _
       simp only [Act.put,List.setIfInBounds_toArray,List.set_cons_zero,List.set_cons_succ,i64_w,i32_w]
       rfl
      refine pure_ (i:=5) (N:=some 6) (v:=?_) (a':=?_) #[true,true,true,true,true,true] rfl rfl (by kernel_rfl) (fun _ _ _ h => h) (Or.inl ⟨by rfl,?_⟩) ?_ ?_
      rotate_left
      ·intro w'
       go_simp
       with_reducible rfl
      rotate_left
      ·simp only [Act.put,List.setIfInBounds_toArray,List.set_cons_zero,List.set_cons_succ,i64_w,i32_w]
       rfl
      refine done_ (by kernel_rfl) ?_
      try go_wp2_with (first|((with_reducible refine gate_callee (f:=19) rfl ?_);refine goesL_ (some 30) rfl rfl Tryd.func19 (by kernel_rfl) rfl #[.slice A0 l0.length c0] rfl (by (try simp only [List.map_toArray,List.map_cons,List.map_nil]);first|done|rfl|(simp only [List.length_drop,List.length_take];rfl)) ?_;(with_reducible refine (laws_toStringS.calls k _ _ l0 t351 _ ?side1 ?side2 A14.out).mono ?_);(case side1 => repeat (first|exact (Kd.C_below HR0.out HB.out)|(with_reducible first|refine Kd.C_alloc ?_ _|refine Kd.C_drewN ?_ _|refine Kd.C_drew ?_)));(case side2 => exact HC0.out);rintro e w37 ⟨v352,rfl,ho0,hb⟩;refine ⟨_,rfl,?_⟩;have n0_:=Aside0.mk (Kd.R_elder' (by (with_reducible repeat (first|apply Kd.R_alloc|apply Kd.R_drewN|apply Kd.R_drew));exact HO343.out) (Kd.R_base ho0) hb);have n1_:=Aside0.mk (Kd.R_below (by (with_reducible repeat (first|apply Kd.R_alloc|apply Kd.R_drewN|apply Kd.R_drew));exact HO347.out) hb);have n2_:=Aside0.mk (Kd.R_below (by (with_reducible repeat (first|apply Kd.R_alloc|apply Kd.R_drewN|apply Kd.R_drew));exact HO350.out) hb);have n3_:=Aside0.mk (Kd.R_lower (Kd.R_new' ho0 (Kd.R_lt (by (with_reducible repeat (first|apply Kd.R_alloc|apply Kd.R_drewN|apply Kd.R_drew));exact HO343.out))) (below_size (by repeat (first|(with_reducible first|exact HB.out|apply below_alloc|apply pw_below_drewN|apply below_drew1|refine below_set ?_ GE338.out)|exact HB.out))));have n4_:=Aside0.mk (blk_below (g:=gb338) (o:=.cells #[.int .i64 a1_0,.slice A1_1 l1_1.length c1_1] 25 (0,0)) (by (with_reducible repeat (first|refine blk_drewN ?_ _|refine blk_drew ?_|refine blk_alloc ?_ _));exact BK338.out) hb);have n5_:=Aside0.mk (below_step (by repeat (first|(with_reducible first|exact HB.out|apply below_alloc|apply pw_below_drewN|apply below_drew1|refine below_set ?_ GE338.out)|exact HB.out)) hb);clear HO343 HO347 HO350 BK338 HB;have HO343:=n0_;have HO347:=n1_;have HO350:=n2_;have HO353:=n3_;have BK338:=n4_;have HB:=n5_;clear n0_ n1_ n2_ n3_ n4_ n5_;(try clear hb);(try clear hb2);(try clear hk);(try clear hi);(try clear ho0);have hcz38_0 : w37.cell? ⟨gb338,0,none⟩ = some (.int .i64 a1_0):=(blk_cell BK338.out 0).trans rfl;have hcz38_1 : w37.cell? ⟨gb338,1,none⟩ = some (.slice A1_1 l1_1.length c1_1):=(blk_cell BK338.out 1).trans rfl;have hfz38_0:=blk_frozen BK338.out 0;have hfz38_1:=blk_frozen BK338.out 1)|((with_reducible refine gate_callee (f:=20) rfl ?_);refine goesL_ (some 32) rfl rfl Tryd.func20 (by kernel_rfl) rfl #[.agg #[.int .i64 a1_0,.slice A1_1 l1_1.length c1_1]] rfl (by (try simp only [List.map_toArray,List.map_cons,List.map_nil]);first|done|rfl|(simp only [List.length_drop,List.length_take];rfl)) ?_;(with_reducible refine (laws_toNursery.calls k a1_0 _ _ l1_1 t354 t355 _ ?side1 ?side2 A15.out).mono ?_);(case side1 => repeat (first|exact (Kd.C_below HR1_1.out HB.out)|(with_reducible first|refine Kd.C_alloc ?_ _|refine Kd.C_drewN ?_ _|refine Kd.C_drew ?_)));(case side2 => exact HC1_1.out);rintro e w39 ⟨v356,rfl,ho0,hb⟩;refine ⟨_,rfl,?_⟩;have n0_:=Aside0.mk (Kd.R_below (by (with_reducible repeat (first|apply Kd.R_alloc|apply Kd.R_drewN|apply Kd.R_drew));exact HO343.out) hb);have n1_:=Aside0.mk (Kd.R_elder' (by (with_reducible repeat (first|apply Kd.R_alloc|apply Kd.R_drewN|apply Kd.R_drew));exact HO347.out) (Kd.R_base ho0) hb);have n2_:=Aside0.mk (Kd.R_elder' (by (with_reducible repeat (first|apply Kd.R_alloc|apply Kd.R_drewN|apply Kd.R_drew));exact HO350.out) (Kd.R_base ho0) hb);have n3_:=Aside0.mk (Kd.R_below (by (with_reducible repeat (first|apply Kd.R_alloc|apply Kd.R_drewN|apply Kd.R_drew));exact HO353.out) hb);have n4_:=Aside0.mk (Kd.R_lower (Kd.R_new' (Kd.R_new' ho0 (Kd.R_lt (by (with_reducible repeat (first|apply Kd.R_alloc|apply Kd.R_drewN|apply Kd.R_drew));exact HO347.out))) (Kd.R_lt (by (with_reducible repeat (first|apply Kd.R_alloc|apply Kd.R_drewN|apply Kd.R_drew));exact HO350.out))) (below_size (by repeat (first|(with_reducible first|exact HB.out|apply below_alloc|apply pw_below_drewN|apply below_drew1|refine below_set ?_ GE338.out)|exact HB.out))));have n5_:=Aside0.mk (blk_below (g:=gb338) (o:=.cells #[.int .i64 a1_0,.slice A1_1 l1_1.length c1_1] 25 (0,0)) (by (with_reducible repeat (first|refine blk_drewN ?_ _|refine blk_drew ?_|refine blk_alloc ?_ _));exact BK338.out) hb);have n6_:=Aside0.mk (below_step (by repeat (first|(with_reducible first|exact HB.out|apply below_alloc|apply pw_below_drewN|apply below_drew1|refine below_set ?_ GE338.out)|exact HB.out)) hb);clear HO343 HO347 HO350 HO353 BK338 HB;have HO343:=n0_;have HO347:=n1_;have HO350:=n2_;have HO353:=n3_;have HO357:=n4_;have BK338:=n5_;have HB:=n6_;clear n0_ n1_ n2_ n3_ n4_ n5_ n6_;(try clear hb);(try clear hb2);(try clear hk);(try clear hi);(try clear ho0))|((with_reducible refine gate_dst (N:=8) rfl ?_);refine box_event ?hg (N:=8) ?hd (cs:=#[.int .i64 0,.slice none 0 0]) (t:=30) ?hr ?_;(case hd => rfl);(case hg => rfl);(case hr => first|(go_simp;done)|(go_simp;rfl));intro gb358 hg w40 hbox hb;have n0_:=Aside0.mk (Kd.R_below (by (with_reducible repeat (first|apply Kd.R_alloc|apply Kd.R_drewN|apply Kd.R_drew));exact HO343.out) hb);have n1_:=Aside0.mk (Kd.R_below (by (with_reducible repeat (first|apply Kd.R_alloc|apply Kd.R_drewN|apply Kd.R_drew));exact HO347.out) hb);have n2_:=Aside0.mk (Kd.R_below (by (with_reducible repeat (first|apply Kd.R_alloc|apply Kd.R_drewN|apply Kd.R_drew));exact HO350.out) hb);have n3_:=Aside0.mk (Kd.R_below (by (with_reducible repeat (first|apply Kd.R_alloc|apply Kd.R_drewN|apply Kd.R_drew));exact HO353.out) hb);have n4_:=Aside0.mk (Kd.R_below (by (with_reducible repeat (first|apply Kd.R_alloc|apply Kd.R_drewN|apply Kd.R_drew));exact HO357.out) hb);have n5_:=Aside0.mk (blk_below (g:=gb338) (o:=.cells #[.int .i64 a1_0,.slice A1_1 l1_1.length c1_1] 25 (0,0)) (by (with_reducible repeat (first|refine blk_drewN ?_ _|refine blk_drew ?_|refine blk_alloc ?_ _));exact BK338.out) hb);have n6_:=Aside0.mk (below_step (by repeat (first|(with_reducible first|exact HB.out|apply below_alloc|apply pw_below_drewN|apply below_drew1|refine below_set ?_ GE338.out)|exact HB.out)) hb);have n7_:=Aside0.mk (hbox);have n8_:=Aside0.mk ((by rw [hg];exact (below_size (by repeat (first|(with_reducible first|exact HB.out|apply below_alloc|apply pw_below_drewN|apply below_drew1|refine below_set ?_ GE338.out)|exact HB.out))) : w.heap.size ≤ gb358));have n9_:=Aside0.mk ((by rw [hg];exact (below_size (by repeat (first|(with_reducible first|exact HB.out|apply below_alloc|apply pw_below_drewN|apply below_drew1|refine below_set ?_ GE338.out)|exact HB.out))) : w.heap.size ≤ gb358));have n10_:=Aside0.mk ((by rw [hg];exact Nat.ne_of_lt (blk_lt (g:=gb338) (o:=.cells #[.int .i64 a1_0,.slice A1_1 l1_1.length c1_1] 25 (0,0)) (by (with_reducible repeat (first|refine blk_drewN ?_ _|refine blk_drew ?_|refine blk_alloc ?_ _));exact BK338.out)) : gb338≠gb358));have n11_:=Aside0.mk ((by rw [hg];exact Nat.ne_of_gt (blk_lt (g:=gb338) (o:=.cells #[.int .i64 a1_0,.slice A1_1 l1_1.length c1_1] 25 (0,0)) (by (with_reducible repeat (first|refine blk_drewN ?_ _|refine blk_drew ?_|refine blk_alloc ?_ _));exact BK338.out)) : gb358≠gb338));clear HO343 HO347 HO350 HO353 HO357 BK338 HB;have HO343:=n0_;have HO347:=n1_;have HO350:=n2_;have HO353:=n3_;have HO357:=n4_;have BK338:=n5_;have HB:=n6_;have BK358:=n7_;have GW358:=n8_;have GE358:=n9_;have NB338_358:=n10_;have NB358_338:=n11_;clear n0_ n1_ n2_ n3_ n4_ n5_ n6_ n7_ n8_ n9_ n10_ n11_;clear hb hbox hg;have hnb41:=NB358_338.out;have hnc41:=NB338_358.out;have hcz42_0 : w40.cell? ⟨gb358,0,none⟩ = some (.int .i64 0):=(blk_cell BK358.out 0).trans rfl;have hcz42_1 : w40.cell? ⟨gb358,1,none⟩ = some (.slice none 0 0):=(blk_cell BK358.out 1).trans rfl;have hfz42_0:=blk_frozen BK358.out 0;have hfz42_1:=blk_frozen BK358.out 1;obtain ⟨Ao43,co43,eo43⟩:=Kd.R_slice HO357.out;subst eo43;obtain ⟨Ao44,co44,eo44⟩:=Kd.R_slice HO353.out;subst eo44)|((with_reducible refine gate_callee (f:=32) rfl ?_);refine goesL_ (some 35) rfl rfl Tryd.func32 (by kernel_rfl) rfl #[.slice Ao44 t351.length co44,.agg #[.int .i64 t354,.slice Ao43 t355.length co43]] rfl (by (try simp only [List.map_toArray,List.map_cons,List.map_nil]);first|done|rfl|(simp only [List.length_drop,List.length_take];rfl)) ?_;(with_reducible refine (impl_Ages.calls k _ _ t351 t354 _ _ t355 t359 _ ?side1 ?side2 ?side3 ?side4 A16.out).mono ?_);(case side1 => refine (Kd.R_reads' (e:=9) (base:=w.heap.size) (ok:=fun k_ => (True∧some k_≠(.slice Ao34 t341.length co34 : Value).ownBlock)) (n:=t351.length) (c:=co44) ?_).2.2;exact (by (with_reducible repeat (first|apply Kd.R_alloc|apply Kd.R_drewN|apply Kd.R_drew));exact (Kd.R_mono (Kd.R_far (p:=⟨gb358,1,none⟩) (Kd.R_far (p:=⟨gb358,0,none⟩) (Kd.R_types HO353.out BK358.out (by decide)) (fun _ hk => hk.2) (.int .i64 t354)) (fun _ hk => hk.2) (.slice Ao43 t355.length co43)) (fun _ h_ => h_.1))));(case side2 => exact (Kd.R_reads' HO353.out).2.1);(case side3 => refine (Kd.R_reads' (e:=2) (base:=w.heap.size) (ok:=fun k_ => ((True∧some k_≠(.slice Ao35 t345.length co35 : Value).ownBlock)∧some k_≠(v349 : Value).ownBlock)) (n:=t355.length) (c:=co43) ?_).2.2;exact (by (with_reducible repeat (first|apply Kd.R_alloc|apply Kd.R_drewN|apply Kd.R_drew));exact (Kd.R_mono (Kd.R_far (p:=⟨gb358,1,none⟩) (Kd.R_far (p:=⟨gb358,0,none⟩) (Kd.R_types HO357.out BK358.out (by decide)) (fun _ hk => hk.2) (.int .i64 t354)) (fun _ hk => hk.2) (.slice Ao43 t355.length co43)) (fun _ h_ => h_.1))));(case side4 => exact (Kd.R_reads' HO357.out).2.1);rintro e w45 ⟨v360,rfl,ho0,hb⟩;refine ⟨_,rfl,?_⟩;have n0_:=Aside0.mk (Kd.R_below (by (with_reducible repeat (first|apply Kd.R_alloc|apply Kd.R_drewN|apply Kd.R_drew));exact (Kd.R_mono (Kd.R_far (p:=⟨gb358,1,none⟩) (Kd.R_far (p:=⟨gb358,0,none⟩) (Kd.R_types HO343.out BK358.out (by decide)) (fun _ hk => hk.2) (.int .i64 t354)) (fun _ hk => hk.2) (.slice Ao43 t355.length co43)) (fun _ h_ => h_.1))) hb);have n1_:=Aside0.mk (Kd.R_elder' (by (with_reducible repeat (first|apply Kd.R_alloc|apply Kd.R_drewN|apply Kd.R_drew));exact (Kd.R_mono (Kd.R_far (p:=⟨gb358,1,none⟩) (Kd.R_far (p:=⟨gb358,0,none⟩) (Kd.R_types HO347.out BK358.out (by decide)) (fun _ hk => hk.2) (.int .i64 t354)) (fun _ hk => hk.2) (.slice Ao43 t355.length co43)) (fun _ h_ => h_.1))) (Kd.R_base ho0) hb);have n2_:=Aside0.mk (Kd.R_elder' (by (with_reducible repeat (first|apply Kd.R_alloc|apply Kd.R_drewN|apply Kd.R_drew));exact (Kd.R_mono (Kd.R_far (p:=⟨gb358,1,none⟩) (Kd.R_far (p:=⟨gb358,0,none⟩) (Kd.R_types HO350.out BK358.out (by decide)) (fun _ hk => hk.2) (.int .i64 t354)) (fun _ hk => hk.2) (.slice Ao43 t355.length co43)) (fun _ h_ => h_.1))) (Kd.R_base ho0) hb);have n3_:=Aside0.mk (Kd.R_below (by (with_reducible repeat (first|apply Kd.R_alloc|apply Kd.R_drewN|apply Kd.R_drew));exact (Kd.R_mono (Kd.R_far (p:=⟨gb358,1,none⟩) (Kd.R_far (p:=⟨gb358,0,none⟩) (Kd.R_types HO353.out BK358.out (by decide)) (fun _ hk => hk.2) (.int .i64 t354)) (fun _ hk => hk.2) (.slice Ao43 t355.length co43)) (fun _ h_ => h_.1))) hb);have n4_:=Aside0.mk (Kd.R_elder' (by (with_reducible repeat (first|apply Kd.R_alloc|apply Kd.R_drewN|apply Kd.R_drew));exact (Kd.R_mono (Kd.R_far (p:=⟨gb358,1,none⟩) (Kd.R_far (p:=⟨gb358,0,none⟩) (Kd.R_types HO357.out BK358.out (by decide)) (fun _ hk => hk.2) (.int .i64 t354)) (fun _ hk => hk.2) (.slice Ao43 t355.length co43)) (fun _ h_ => h_.1))) (Kd.R_base ho0) hb);have n5_:=Aside0.mk (Kd.R_lower (Kd.R_new' (Kd.R_new' (Kd.R_new' ho0 (Kd.R_lt (by (with_reducible repeat (first|apply Kd.R_alloc|apply Kd.R_drewN|apply Kd.R_drew));exact (Kd.R_mono (Kd.R_far (p:=⟨gb358,1,none⟩) (Kd.R_far (p:=⟨gb358,0,none⟩) (Kd.R_types HO347.out BK358.out (by decide)) (fun _ hk => hk.2) (.int .i64 t354)) (fun _ hk => hk.2) (.slice Ao43 t355.length co43)) (fun _ h_ => h_.1))))) (Kd.R_lt (by (with_reducible repeat (first|apply Kd.R_alloc|apply Kd.R_drewN|apply Kd.R_drew));exact (Kd.R_mono (Kd.R_far (p:=⟨gb358,1,none⟩) (Kd.R_far (p:=⟨gb358,0,none⟩) (Kd.R_types HO350.out BK358.out (by decide)) (fun _ hk => hk.2) (.int .i64 t354)) (fun _ hk => hk.2) (.slice Ao43 t355.length co43)) (fun _ h_ => h_.1))))) (Kd.R_lt (by (with_reducible repeat (first|apply Kd.R_alloc|apply Kd.R_drewN|apply Kd.R_drew));exact (Kd.R_mono (Kd.R_far (p:=⟨gb358,1,none⟩) (Kd.R_far (p:=⟨gb358,0,none⟩) (Kd.R_types HO357.out BK358.out (by decide)) (fun _ hk => hk.2) (.int .i64 t354)) (fun _ hk => hk.2) (.slice Ao43 t355.length co43)) (fun _ h_ => h_.1))))) (below_size (by repeat (first|(with_reducible first|exact HB.out|apply below_alloc|apply pw_below_drewN|apply below_drew1|refine below_set ?_ GE338.out|refine below_set ?_ GE358.out)|exact HB.out))));have n6_:=Aside0.mk (blk_below (g:=gb338) (o:=.cells #[.int .i64 a1_0,.slice A1_1 l1_1.length c1_1] 25 (0,0)) (by (with_reducible repeat (first|refine blk_drewN ?_ _|refine blk_drew ?_|refine blk_alloc ?_ _));refine blk_far ?_ NB338_358.out _;(with_reducible repeat (first|refine blk_drewN ?_ _|refine blk_drew ?_|refine blk_alloc ?_ _));refine blk_far ?_ NB338_358.out _;(with_reducible repeat (first|refine blk_drewN ?_ _|refine blk_drew ?_|refine blk_alloc ?_ _));exact BK338.out) hb);have n7_:=Aside0.mk (blk_below (g:=gb358) (o:=.cells #[.int .i64 t354,.slice Ao43 t355.length co43] 30 (0,0)) (by (with_reducible repeat (first|refine blk_drewN ?_ _|refine blk_drew ?_|refine blk_alloc ?_ _));refine blk_put (cs:=#[.int .i64 t354,.slice none 0 0]) ?_ 1 _ rfl;(with_reducible repeat (first|refine blk_drewN ?_ _|refine blk_drew ?_|refine blk_alloc ?_ _));refine blk_put (cs:=#[.int .i64 0,.slice none 0 0]) ?_ 0 _ rfl;(with_reducible repeat (first|refine blk_drewN ?_ _|refine blk_drew ?_|refine blk_alloc ?_ _));exact BK358.out) hb);have n8_:=Aside0.mk (below_step (by repeat (first|(with_reducible first|exact HB.out|apply below_alloc|apply pw_below_drewN|apply below_drew1|refine below_set ?_ GE338.out|refine below_set ?_ GE358.out)|exact HB.out)) hb);clear HO343 HO347 HO350 HO353 HO357 BK338 BK358 HB;have HO343:=n0_;have HO347:=n1_;have HO350:=n2_;have HO353:=n3_;have HO357:=n4_;have HO361:=n5_;have BK338:=n6_;have BK358:=n7_;have HB:=n8_;clear n0_ n1_ n2_ n3_ n4_ n5_ n6_ n7_ n8_;(try clear hb);(try clear hb2);(try clear hk);(try clear hi);(try clear ho0);obtain ⟨Ao46,co46,eo46⟩:=Kd.R_slice HO361.out;subst eo46;obtain ⟨Ao47,co47,eo47⟩:=Kd.R_slice HO350.out;subst eo47)|((with_reducible refine gate_callee (f:=26) rfl ?_);refine goesL_ (some 38) rfl rfl Tryd.func26 (by kernel_rfl) rfl #[.slice Ao46 t359.length co46,.slice Ao47 t348.length co47] rfl (by (try simp only [List.map_toArray,List.map_cons,List.map_nil]);first|done|rfl|(simp only [List.length_drop,List.length_take];rfl)) ?_;(with_reducible refine (laws_eqInt64S.calls k _ _ t359 _ _ t348 true _ ?side1 ?side2 ?side3 ?side4 A17.out).mono ?_);(case side1 => repeat (first|exact (Kd.R_reads' HO361.out).2.2|(with_reducible first|refine Kd.C_alloc ?_ _|refine Kd.C_drewN ?_ _|refine Kd.C_drew ?_)));(case side2 => exact (Kd.R_reads' HO361.out).2.1);(case side3 => repeat (first|exact (Kd.R_reads' HO350.out).2.2|(with_reducible first|refine Kd.C_alloc ?_ _|refine Kd.C_drewN ?_ _|refine Kd.C_drew ?_)));(case side4 => exact (Kd.R_reads' HO350.out).2.1);rintro e w' ⟨rfl,⟨nd,rfl⟩⟩;refine ⟨_,rfl,?_⟩)|((with_reducible refine gate_callee (f:=19) rfl ?_);refine goesL_ (some 42) rfl rfl Tryd.func19 (by kernel_rfl) rfl #[.slice A0 l0.length c0] rfl (by (try simp only [List.map_toArray,List.map_cons,List.map_nil]);first|done|rfl|(simp only [List.length_drop,List.length_take];rfl)) ?_;(with_reducible refine (laws_toStringS.calls k _ _ l0 t363 _ ?side1 ?side2 A19.out).mono ?_);(case side1 => repeat (first|exact (Kd.C_below HR0.out (by repeat (first|(with_reducible first|exact HB.out|apply below_alloc|apply pw_below_drewN|apply below_drew1|refine below_set ?_ GE338.out|refine below_set ?_ GE358.out)|exact HB.out)))|(with_reducible first|refine Kd.C_alloc ?_ _|refine Kd.C_drewN ?_ _|refine Kd.C_drew ?_)));(case side2 => exact HC0.out);rintro e w48 ⟨v364,rfl,ho0,hb⟩;refine ⟨_,rfl,?_⟩;have n0_:=Aside0.mk (Kd.R_elder' (by (with_reducible repeat (first|apply Kd.R_alloc|apply Kd.R_drewN|apply Kd.R_drew));exact HO343.out) (Kd.R_base ho0) hb);have n1_:=Aside0.mk (Kd.R_below (by (with_reducible repeat (first|apply Kd.R_alloc|apply Kd.R_drewN|apply Kd.R_drew));exact HO347.out) hb);have n2_:=Aside0.mk (Kd.R_below (by (with_reducible repeat (first|apply Kd.R_alloc|apply Kd.R_drewN|apply Kd.R_drew));exact HO350.out) hb);have n3_:=Aside0.mk (Kd.R_elder' (by (with_reducible repeat (first|apply Kd.R_alloc|apply Kd.R_drewN|apply Kd.R_drew));exact HO353.out) (Kd.R_base ho0) hb);have n4_:=Aside0.mk (Kd.R_below (by (with_reducible repeat (first|apply Kd.R_alloc|apply Kd.R_drewN|apply Kd.R_drew));exact HO357.out) hb);have n5_:=Aside0.mk (Kd.R_below (by (with_reducible repeat (first|apply Kd.R_alloc|apply Kd.R_drewN|apply Kd.R_drew));exact HO361.out) hb);have n6_:=Aside0.mk (Kd.R_lower (Kd.R_new' (Kd.R_new' ho0 (Kd.R_lt (by (with_reducible repeat (first|apply Kd.R_alloc|apply Kd.R_drewN|apply Kd.R_drew));exact HO343.out))) (Kd.R_lt (by (with_reducible repeat (first|apply Kd.R_alloc|apply Kd.R_drewN|apply Kd.R_drew));exact HO353.out))) (below_size (by repeat (first|(with_reducible first|exact HB.out|apply below_alloc|apply pw_below_drewN|apply below_drew1|refine below_set ?_ GE338.out|refine below_set ?_ GE358.out)|exact HB.out))));have n7_:=Aside0.mk (blk_below (g:=gb338) (o:=.cells #[.int .i64 a1_0,.slice A1_1 l1_1.length c1_1] 25 (0,0)) (by (with_reducible repeat (first|refine blk_drewN ?_ _|refine blk_drew ?_|refine blk_alloc ?_ _));exact BK338.out) hb);have n8_:=Aside0.mk (blk_below (g:=gb358) (o:=.cells #[.int .i64 t354,.slice Ao43 t355.length co43] 30 (0,0)) (by (with_reducible repeat (first|refine blk_drewN ?_ _|refine blk_drew ?_|refine blk_alloc ?_ _));exact BK358.out) hb);have n9_:=Aside0.mk (below_step (by repeat (first|(with_reducible first|exact HB.out|apply below_alloc|apply pw_below_drewN|apply below_drew1|refine below_set ?_ GE338.out|refine below_set ?_ GE358.out)|exact HB.out)) hb);clear HO343 HO347 HO350 HO353 HO357 HO361 BK338 BK358 HB;have HO343:=n0_;have HO347:=n1_;have HO350:=n2_;have HO353:=n3_;have HO357:=n4_;have HO361:=n5_;have HO365:=n6_;have BK338:=n7_;have BK358:=n8_;have HB:=n9_;clear n0_ n1_ n2_ n3_ n4_ n5_ n6_ n7_ n8_ n9_;(try clear hb);(try clear hb2);(try clear hk);(try clear hi);(try clear ho0);obtain ⟨Ao49,co49,eo49⟩:=Kd.R_slice HO365.out;subst eo49)|((with_reducible refine gate_callee (f:=22) rfl ?_);refine goesL_ (some 43) rfl rfl Tryd.func22 (by kernel_rfl) rfl #[.slice Ao44 t351.length co44,.slice Ao49 t363.length co49] rfl (by (try simp only [List.map_toArray,List.map_cons,List.map_nil]);first|done|rfl|(simp only [List.length_drop,List.length_take];rfl)) ?_;(with_reducible refine (laws_eqStringS.calls k _ _ t351 _ _ t363 true _ ?side1 ?side2 ?side3 ?side4 A20.out).mono ?_);(case side1 => repeat (first|exact (Kd.R_reads' HO353.out).2.2|(with_reducible first|refine Kd.C_alloc ?_ _|refine Kd.C_drewN ?_ _|refine Kd.C_drew ?_)));(case side2 => exact (Kd.R_reads' HO353.out).2.1);(case side3 => repeat (first|exact (Kd.R_reads' HO365.out).2.2|(with_reducible first|refine Kd.C_alloc ?_ _|refine Kd.C_drewN ?_ _|refine Kd.C_drew ?_)));(case side4 => exact (Kd.R_reads' HO365.out).2.1);rintro e w' ⟨rfl,⟨nd,rfl⟩⟩;refine ⟨_,rfl,?_⟩))
      (try (rw [drewN_self w48];generalize hq_ : World.drewN w48 _ = w48;have n0_ : Aside0 (Kd.R Kd.string 9 w48 w.heap.size (fun k_ => some k_≠(.slice Ao44 t351.length co44 : Value).ownBlock∧some k_≠(.slice Ao49 t363.length co49 : Value).ownBlock) (.slice Ao34 t341.length co34) t341):=⟨by rw [← hq_];exact (by (with_reducible repeat (first|apply Kd.R_alloc|apply Kd.R_drewN|apply Kd.R_drew));exact Kd.R_mono HO343.out (fun _ hk => ⟨hk.1.2,hk.2⟩))⟩;have n1_ : Aside0 (Kd.R (Kd.int .i64) 2 w48 w.heap.size (fun k_ => some k_≠(.slice Ao47 t348.length co47 : Value).ownBlock∧some k_≠(.slice Ao43 t355.length co43 : Value).ownBlock∧some k_≠(.slice Ao46 t359.length co46 : Value).ownBlock) (.slice Ao35 t345.length co35) t345):=⟨by rw [← hq_];exact (by (with_reducible repeat (first|apply Kd.R_alloc|apply Kd.R_drewN|apply Kd.R_drew));exact Kd.R_mono HO347.out (fun _ hk => ⟨hk.1.1.2,⟨hk.1.2,hk.2⟩⟩))⟩;have n2_ : Aside0 (Kd.R (Kd.int .i64) 2 w48 w.heap.size (fun k_ => some k_≠(.slice Ao35 t345.length co35 : Value).ownBlock∧some k_≠(.slice Ao43 t355.length co43 : Value).ownBlock∧some k_≠(.slice Ao46 t359.length co46 : Value).ownBlock) (.slice Ao47 t348.length co47) t348):=⟨by rw [← hq_];exact (by (with_reducible repeat (first|apply Kd.R_alloc|apply Kd.R_drewN|apply Kd.R_drew));exact Kd.R_mono HO350.out (fun _ hk => ⟨hk.1.1.2,⟨hk.1.2,hk.2⟩⟩))⟩;have n3_ : Aside0 (Kd.R Kd.string 9 w48 w.heap.size (fun k_ => some k_≠(.slice Ao34 t341.length co34 : Value).ownBlock∧some k_≠(.slice Ao49 t363.length co49 : Value).ownBlock) (.slice Ao44 t351.length co44) t351):=⟨by rw [← hq_];exact (by (with_reducible repeat (first|apply Kd.R_alloc|apply Kd.R_drewN|apply Kd.R_drew));exact Kd.R_mono HO353.out (fun _ hk => ⟨hk.1.2,hk.2⟩))⟩;have n4_ : Aside0 (Kd.R (Kd.int .i64) 2 w48 w.heap.size (fun k_ => some k_≠(.slice Ao35 t345.length co35 : Value).ownBlock∧some k_≠(.slice Ao47 t348.length co47 : Value).ownBlock∧some k_≠(.slice Ao46 t359.length co46 : Value).ownBlock) (.slice Ao43 t355.length co43) t355):=⟨by rw [← hq_];exact (by (with_reducible repeat (first|apply Kd.R_alloc|apply Kd.R_drewN|apply Kd.R_drew));exact Kd.R_mono HO357.out (fun _ hk => ⟨hk.1.1.2,⟨hk.1.2,hk.2⟩⟩))⟩;have n5_ : Aside0 (Kd.R (Kd.int .i64) 2 w48 w.heap.size (fun k_ => some k_≠(.slice Ao35 t345.length co35 : Value).ownBlock∧some k_≠(.slice Ao47 t348.length co47 : Value).ownBlock∧some k_≠(.slice Ao43 t355.length co43 : Value).ownBlock) (.slice Ao46 t359.length co46) t359):=⟨by rw [← hq_];exact (by (with_reducible repeat (first|apply Kd.R_alloc|apply Kd.R_drewN|apply Kd.R_drew));exact Kd.R_mono HO361.out (fun _ hk => ⟨hk.1.1.2,⟨hk.1.2,hk.2⟩⟩))⟩;have n6_ : Aside0 (Kd.R Kd.string 9 w48 w.heap.size (fun k_ => some k_≠(.slice Ao34 t341.length co34 : Value).ownBlock∧some k_≠(.slice Ao44 t351.length co44 : Value).ownBlock) (.slice Ao49 t363.length co49) t363):=⟨by rw [← hq_];exact (by (with_reducible repeat (first|apply Kd.R_alloc|apply Kd.R_drewN|apply Kd.R_drew));exact Kd.R_mono HO365.out (fun _ hk => ⟨hk.1.2,hk.2⟩))⟩;have n7_ : Aside0 (w48.heap[gb338]? = some (.cells #[.int .i64 a1_0,.slice A1_1 l1_1.length c1_1] 25 (0,0))):=⟨by rw [← hq_];exact (by (with_reducible repeat (first|refine blk_drewN ?_ _|refine blk_drew ?_|refine blk_alloc ?_ _));exact BK338.out)⟩;have n8_ : Aside0 (w48.heap[gb358]? = some (.cells #[.int .i64 t354,.slice Ao43 t355.length co43] 30 (0,0))):=⟨by rw [← hq_];exact (by (with_reducible repeat (first|refine blk_drewN ?_ _|refine blk_drew ?_|refine blk_alloc ?_ _));exact BK358.out)⟩;have n9_ : Aside0 (Below w.heap.size w w48):=⟨by rw [← hq_];exact (by repeat (first|(with_reducible first|exact HB.out|apply below_alloc|apply pw_below_drewN|apply below_drew1|refine below_set ?_ GE338.out|refine below_set ?_ GE358.out)|exact HB.out))⟩;clear HO343 HO347 HO350 HO353 HO357 HO361 HO365 BK338 BK358 HB hq_;have HO343:=n0_;have HO347:=n1_;have HO350:=n2_;have HO353:=n3_;have HO357:=n4_;have HO361:=n5_;have HO365:=n6_;have BK338:=n7_;have BK358:=n8_;have HB:=n9_;clear n0_ n1_ n2_ n3_ n4_ n5_ n6_ n7_ n8_ n9_))
      have n0_:=Aside0.mk (Kd.R_drew HO343.out)
      have n1_:=Aside0.mk (Kd.R_drew HO347.out)
      have n2_:=Aside0.mk (Kd.R_drew HO350.out)
      have n3_:=Aside0.mk (Kd.R_drew HO353.out)
      have n4_:=Aside0.mk (Kd.R_drew HO357.out)
      have n5_:=Aside0.mk (Kd.R_drew HO361.out)
      have n6_:=Aside0.mk (Kd.R_drew HO365.out)
      have n7_:=Aside0.mk (blk_drew BK338.out)
      have n8_:=Aside0.mk (blk_drew BK358.out)
      have n9_:=Aside0.mk (below_drew1 HB.out)
      clear HO343
      clear HO347
      clear HO350
      clear HO353
      clear HO357
      clear HO361
      clear HO365
      clear BK338
      clear BK358
      clear HB
      have HO343:=n0_
      have HO347:=n1_
      have HO350:=n2_
      have HO353:=n3_
      have HO357:=n4_
      have HO361:=n5_
      have HO365:=n6_
      have BK338:=n7_
      have BK358:=n8_
      have HB:=n9_
      clear n0_ n1_ n2_ n3_ n4_ n5_ n6_ n7_ n8_ n9_
      refine start_ (n:=5) (S:=fun w' => w'.cell? ⟨gb358,0,none⟩ = some (.int .i64 t354)∧w'.cell? ⟨gb358,1,none⟩ = some (.slice Ao43 t355.length co43)∧w'.cell? ⟨gb338,0,none⟩ = some (.int .i64 a1_0)∧w'.cell? ⟨gb338,1,none⟩ = some (.slice A1_1 l1_1.length c1_1)) (ds:=[]) #[false,false,false,false,false] (by kernel_rfl) rfl rfl ⟨(blk_cell BK358.out 0).trans rfl,(blk_cell BK358.out 1).trans rfl,(blk_cell BK338.out 0).trans rfl,(blk_cell BK338.out 1).trans rfl⟩ (fun hHeld => ?_)
      generalize w48.drew = w50 at HO343 HO347 HO350 HO353 HO357 HO361 HO365 BK338 BK358 HB hHeld ⊢
      refine take_ (i:=0) (N:=some 45) (v:=?_) (a':=?_) #[true,false,false,false,false] rfl rfl (by kernel_rfl) (fun _ _ _ h => h) (Or.inl ⟨by rfl,?_⟩) hHeld ?_ ?_
      rotate_left
      ·rintro w' ⟨s0,s1,s2,s3⟩
       go_simp
       with_reducible rfl
      rotate_left
      ·simp only [Act.put,List.setIfInBounds_toArray,List.set_cons_zero,List.set_cons_succ,i64_w,i32_w]
       rfl
      refine take_ (i:=1) (N:=some 46) (v:=?_) (a':=?_) #[true,true,false,false,false] rfl rfl (by kernel_rfl) (fun _ _ _ h => h) (Or.inl ⟨by rfl,?_⟩) hHeld ?_ ?_
      rotate_left
      ·rintro w' ⟨s0,s1,s2,s3⟩
       go_simp
       with_reducible rfl
      rotate_left
      ·simp only [Act.put,List.setIfInBounds_toArray,List.set_cons_zero,List.set_cons_succ,i64_w,i32_w]
       rfl
      refine one_ (i:=2) (N:=some 47) #[true,true,true,false,false] rfl rfl (by kernel_rfl) (by decide) (fun K hK => ?_)
      refine goes_ Tryd.func20 (by kernel_rfl) rfl #[.agg #[.int .i64 a1_0,.slice A1_1 l1_1.length c1_1]] (by rfl) rfl rfl (by (try simp only [List.map_toArray,List.map_cons,List.map_nil]);first|done|rfl|(simp only [List.length_drop,List.length_take];rfl)) ?_
      with_reducible refine (laws_toNursery.calls k a1_0 _ _ l1_1 t367 t368 _ ?side1 ?side2 A22.out).mono ?_
      (case side1 => repeat (first|exact (Kd.C_below HR1_1.out HB.out)|(with_reducible first|refine Kd.C_alloc ?_ _|refine Kd.C_drewN ?_ _|refine Kd.C_drew ?_)))
      (case side2 => exact HC1_1.out)
      rintro e w51 ⟨v369,rfl,ho0,hb⟩
      refine ⟨_,rfl,?_⟩
      have n0_:=Aside0.mk (Kd.R_below (by (with_reducible repeat (first|apply Kd.R_alloc|apply Kd.R_drewN|apply Kd.R_drew));exact HO343.out) hb)
      have n1_:=Aside0.mk (Kd.R_elder' (by (with_reducible repeat (first|apply Kd.R_alloc|apply Kd.R_drewN|apply Kd.R_drew));exact HO347.out) (Kd.R_base ho0) hb)
      have n2_:=Aside0.mk (Kd.R_elder' (by (with_reducible repeat (first|apply Kd.R_alloc|apply Kd.R_drewN|apply Kd.R_drew));exact HO350.out) (Kd.R_base ho0) hb)
      have n3_:=Aside0.mk (Kd.R_below (by (with_reducible repeat (first|apply Kd.R_alloc|apply Kd.R_drewN|apply Kd.R_drew));exact HO353.out) hb)
      have n4_:=Aside0.mk (Kd.R_elder' (by (with_reducible repeat (first|apply Kd.R_alloc|apply Kd.R_drewN|apply Kd.R_drew));exact HO357.out) (Kd.R_base ho0) hb)
      have n5_:=Aside0.mk (Kd.R_elder' (by (with_reducible repeat (first|apply Kd.R_alloc|apply Kd.R_drewN|apply Kd.R_drew));exact HO361.out) (Kd.R_base ho0) hb)
      have n6_:=Aside0.mk (Kd.R_below (by (with_reducible repeat (first|apply Kd.R_alloc|apply Kd.R_drewN|apply Kd.R_drew));exact HO365.out) hb)
      have n7_:=Aside0.mk (Kd.R_lower (Kd.R_new' (Kd.R_new' (Kd.R_new' (Kd.R_new' ho0 (Kd.R_lt (by (with_reducible repeat (first|apply Kd.R_alloc|apply Kd.R_drewN|apply Kd.R_drew));exact HO347.out))) (Kd.R_lt (by (with_reducible repeat (first|apply Kd.R_alloc|apply Kd.R_drewN|apply Kd.R_drew));exact HO350.out))) (Kd.R_lt (by (with_reducible repeat (first|apply Kd.R_alloc|apply Kd.R_drewN|apply Kd.R_drew));exact HO357.out))) (Kd.R_lt (by (with_reducible repeat (first|apply Kd.R_alloc|apply Kd.R_drewN|apply Kd.R_drew));exact HO361.out))) (below_size (by repeat (first|(with_reducible first|exact HB.out|apply below_alloc|apply pw_below_drewN|apply below_drew1|refine below_set ?_ GE338.out|refine below_set ?_ GE358.out)|exact HB.out))))
      have n8_:=Aside0.mk (blk_below (g:=gb338) (o:=.cells #[.int .i64 a1_0,.slice A1_1 l1_1.length c1_1] 25 (0,0)) (by (with_reducible repeat (first|refine blk_drewN ?_ _|refine blk_drew ?_|refine blk_alloc ?_ _));exact BK338.out) hb)
      have n9_:=Aside0.mk (blk_below (g:=gb358) (o:=.cells #[.int .i64 t354,.slice Ao43 t355.length co43] 30 (0,0)) (by (with_reducible repeat (first|refine blk_drewN ?_ _|refine blk_drew ?_|refine blk_alloc ?_ _));exact BK358.out) hb)
      have n10_:=Aside0.mk (below_step (by repeat (first|(with_reducible first|exact HB.out|apply below_alloc|apply pw_below_drewN|apply below_drew1|refine below_set ?_ GE338.out|refine below_set ?_ GE358.out)|exact HB.out)) hb)
      clear HO343
      clear HO347
      clear HO350
      clear HO353
      clear HO357
      clear HO361
      clear HO365
      clear BK338
      clear BK358
      clear HB
      have HO343:=n0_
      have HO347:=n1_
      have HO350:=n2_
      have HO353:=n3_
      have HO357:=n4_
      have HO361:=n5_
      have HO365:=n6_
      have HO370:=n7_
      have BK338:=n8_
      have BK358:=n9_
      have HB:=n10_
      clear n0_ n1_ n2_ n3_ n4_ n5_ n6_ n7_ n8_ n9_ n10_
      (try clear hb)
      (try clear hb2)
      (try clear hk)
      (try clear hi)
      (try clear ho0)
      obtain ⟨Ao52,co52,eo52⟩:=Kd.R_slice HO370.out
      (first|subst eo52|(injection eo52 with f1_ f2_ f3_;have f4_:=f1_.symm;have f5_:=f3_.symm;clear f1_ f2_ f3_;subst f4_;subst f5_))
      refine hK.out _ _ ⟨(blk_cell BK358.out 0).trans rfl,(blk_cell BK358.out 1).trans rfl,(blk_cell BK338.out 0).trans rfl,(blk_cell BK338.out 1).trans rfl⟩ (fun hHeld => ?_)
      clear hK K
      refine norm_ (a':=?_) ?_ ?_
      rotate_left
      ·show Act.put _ (some 47) _ = _
       simp only [Act.put,List.setIfInBounds_toArray,List.set_cons_zero,List.set_cons_succ,i64_w,i32_w]
       rfl
      refine one_ (i:=3) (N:=some 48) #[true,true,true,true,false] rfl rfl (by kernel_rfl) (by decide) (fun K hK => ?_)
      refine goes_ Tryd.func23 (by kernel_rfl) rfl #[.agg #[.int .i64 t354,.slice Ao43 t355.length co43],.agg #[.int .i64 t367,.slice Ao52 t368.length co52]] (by rfl) rfl rfl (by (try simp only [List.map_toArray,List.map_cons,List.map_nil]);first|done|rfl|(simp only [List.length_drop,List.length_take];rfl)) ?_
      with_reducible refine (laws_eqNursery.calls k t354 _ _ t355 t367 _ _ t368 true _ ?side1 ?side2 ?side3 ?side4 A23.out).mono ?_
      (case side1 => repeat (first|exact (Kd.R_reads' HO357.out).2.2|(with_reducible first|refine Kd.C_alloc ?_ _|refine Kd.C_drewN ?_ _|refine Kd.C_drew ?_)))
      (case side2 => exact (Kd.R_reads' HO357.out).2.1)
      (case side3 => repeat (first|exact (Kd.R_reads' HO370.out).2.2|(with_reducible first|refine Kd.C_alloc ?_ _|refine Kd.C_drewN ?_ _|refine Kd.C_drew ?_)))
      (case side4 => exact (Kd.R_reads' HO370.out).2.1)
      rintro e w53 ⟨rfl,hb⟩
      refine ⟨_,rfl,?_⟩
      have n0_:=Aside0.mk (Kd.R_below (by (with_reducible repeat (first|apply Kd.R_alloc|apply Kd.R_drewN|apply Kd.R_drew));exact HO343.out) hb)
      have n1_:=Aside0.mk (Kd.R_below (by (with_reducible repeat (first|apply Kd.R_alloc|apply Kd.R_drewN|apply Kd.R_drew));exact HO347.out) hb)
      have n2_:=Aside0.mk (Kd.R_below (by (with_reducible repeat (first|apply Kd.R_alloc|apply Kd.R_drewN|apply Kd.R_drew));exact HO350.out) hb)
      have n3_:=Aside0.mk (Kd.R_below (by (with_reducible repeat (first|apply Kd.R_alloc|apply Kd.R_drewN|apply Kd.R_drew));exact HO353.out) hb)
      have n4_:=Aside0.mk (Kd.R_below (by (with_reducible repeat (first|apply Kd.R_alloc|apply Kd.R_drewN|apply Kd.R_drew));exact HO357.out) hb)
      have n5_:=Aside0.mk (Kd.R_below (by (with_reducible repeat (first|apply Kd.R_alloc|apply Kd.R_drewN|apply Kd.R_drew));exact HO361.out) hb)
      have n6_:=Aside0.mk (Kd.R_below (by (with_reducible repeat (first|apply Kd.R_alloc|apply Kd.R_drewN|apply Kd.R_drew));exact HO365.out) hb)
      have n7_:=Aside0.mk (Kd.R_below (by (with_reducible repeat (first|apply Kd.R_alloc|apply Kd.R_drewN|apply Kd.R_drew));exact HO370.out) hb)
      have n8_:=Aside0.mk (blk_below (g:=gb338) (o:=.cells #[.int .i64 a1_0,.slice A1_1 l1_1.length c1_1] 25 (0,0)) (by (with_reducible repeat (first|refine blk_drewN ?_ _|refine blk_drew ?_|refine blk_alloc ?_ _));exact BK338.out) hb)
      have n9_:=Aside0.mk (blk_below (g:=gb358) (o:=.cells #[.int .i64 t354,.slice Ao43 t355.length co43] 30 (0,0)) (by (with_reducible repeat (first|refine blk_drewN ?_ _|refine blk_drew ?_|refine blk_alloc ?_ _));exact BK358.out) hb)
      have n10_:=Aside0.mk (below_step (by repeat (first|(with_reducible first|exact HB.out|apply below_alloc|apply pw_below_drewN|apply below_drew1|refine below_set ?_ GE338.out|refine below_set ?_ GE358.out)|exact HB.out)) hb)
      clear HO343
      clear HO347
      clear HO350
      clear HO353
      clear HO357
      clear HO361
      clear HO365
      clear HO370
      clear BK338
      clear BK358
      clear HB
      have HO343:=n0_
      have HO347:=n1_
      have HO350:=n2_
      have HO353:=n3_
      have HO357:=n4_
      have HO361:=n5_
      have HO365:=n6_
      have HO370:=n7_
      have BK338:=n8_
      have BK358:=n9_
      have HB:=n10_
      clear n0_ n1_ n2_ n3_ n4_ n5_ n6_ n7_ n8_ n9_ n10_
      (try clear hb)
      (try clear hb2)
      (try clear hk)
      (try clear hi)
      refine hK.out _ _ ⟨(blk_cell BK358.out 0).trans rfl,(blk_cell BK358.out 1).trans rfl,(blk_cell BK338.out 0).trans rfl,(blk_cell BK338.out 1).trans rfl⟩ (fun hHeld => ?_)
      clear hK K
      refine norm_ (a':=?_) ?_ ?_
      rotate_left
      ·show Act.put _ (some 48) _ = _
       simp only [Act.put,List.setIfInBounds_toArray,List.set_cons_zero,List.set_cons_succ,i64_w,i32_w]
       rfl
      refine pure_ (i:=4) (N:=some 49) (v:=?_) (a':=?_) #[true,true,true,true,true] rfl rfl (by kernel_rfl) (fun _ _ _ h => h) (Or.inl ⟨by rfl,?_⟩) ?_ ?_
      rotate_left
      ·intro w'
       go_simp
       with_reducible rfl
      rotate_left
      ·simp only [Act.put,List.setIfInBounds_toArray,List.set_cons_zero,List.set_cons_succ,i64_w,i32_w]
       rfl
      refine done_ (by kernel_rfl) ?_
      go_upto_region 21 with (first|((with_reducible refine gate_callee (f:=27) rfl ?_);refine goesL_ (some 52) rfl rfl Tryd.func27 (by kernel_rfl) rfl #[.slice Ao44 t351.length co44,.int .i64 1] rfl (by (try simp only [List.map_toArray,List.map_cons,List.map_nil]);first|done|rfl|(simp only [List.length_drop,List.length_take];rfl)) ?_;(with_reducible refine (laws_markStringS.calls k (fun k_ => some k_ = (.slice Ao44 t351.length co44 : Value).ownBlock) (.slice Ao44 t351.length co44) t351 1 t372 t373 w _ ?side1 ?side2 A25.out).mono ?_);(case side1 => repeat (first|(with_reducible first|exact HB.out|apply below_alloc|apply pw_below_drewN|apply below_drew1|refine below_set ?_ GE338.out|refine below_set ?_ GE358.out)|exact HB.out));(case side2 => exact Kd.R_tight rfl HO353.out);rintro e w54 ⟨rfl,hy0,hb,hkp⟩;refine ⟨_,rfl,?_⟩;have n0_:=Aside0.mk (blk_kept (by (with_reducible repeat (first|refine blk_drewN ?_ _|refine blk_drew ?_|refine blk_alloc ?_ _));exact BK338.out) hkp (fun hs_ => (fun e_ => (Kd.R_ne HO353.out BK338.out (by decide)) e_) hs_));have n1_:=Aside0.mk (Kd.R_mono (ok':=fun k_ => some k_≠(.slice Ao44 t351.length co44 : Value).ownBlock∧some k_≠(.slice Ao49 t363.length co49 : Value).ownBlock) (Kd.R_keptB (HO343.out) hkp (fun k_ hk_ hs_ => by first|exact hk_.1.2 hs_|exact hk_.1 hs_|exact hk_.2.1 hs_|exact hk_.2 hs_|exact hk_.2.2.1 hs_|exact hk_.2.2 hs_|exact hk_.2.2.2 hs_)) (fun k_ hk_ => by first|exact ⟨hk_.1.1.2,hk_.1.2⟩|(simp only [and_assoc] at hk_;exact ⟨hk_.1,hk_.2.1⟩)));have n2_:=Aside0.mk (Kd.R_mono (ok':=fun k_ => some k_≠(.slice Ao47 t348.length co47 : Value).ownBlock∧some k_≠(.slice Ao43 t355.length co43 : Value).ownBlock∧some k_≠(.slice Ao46 t359.length co46 : Value).ownBlock∧some k_≠(.slice Ao52 t368.length co52 : Value).ownBlock) (Kd.R_keptB ((Kd.R_apart' HO347.out (Kd.R_typed HO353.out) (by decide))) hkp (fun k_ hk_ hs_ => (hk_.2) hs_)) (fun k_ hk_ => by first|exact ⟨hk_.1.1.1.1.1.2,hk_.1.1.1.1.2,hk_.1.1.1.2,hk_.1.1.2⟩|(simp only [and_assoc] at hk_;exact ⟨hk_.1,hk_.2.1,hk_.2.2.1,hk_.2.2.2.1⟩)));have n3_:=Aside0.mk (Kd.R_mono (ok':=fun k_ => some k_≠(.slice Ao35 t345.length co35 : Value).ownBlock∧some k_≠(.slice Ao43 t355.length co43 : Value).ownBlock∧some k_≠(.slice Ao46 t359.length co46 : Value).ownBlock∧some k_≠(.slice Ao52 t368.length co52 : Value).ownBlock) (Kd.R_keptB ((Kd.R_apart' HO350.out (Kd.R_typed HO353.out) (by decide))) hkp (fun k_ hk_ hs_ => (hk_.2) hs_)) (fun k_ hk_ => by first|exact ⟨hk_.1.1.1.1.1.2,hk_.1.1.1.1.2,hk_.1.1.1.2,hk_.1.1.2⟩|(simp only [and_assoc] at hk_;exact ⟨hk_.1,hk_.2.1,hk_.2.2.1,hk_.2.2.2.1⟩)));have n4_:=Aside0.mk (Kd.R_reok rfl hy0 (fun k_ e_ => HO353.out.1 k_ e_));have n5_:=Aside0.mk (Kd.R_mono (ok':=fun k_ => some k_≠(.slice Ao35 t345.length co35 : Value).ownBlock∧some k_≠(.slice Ao47 t348.length co47 : Value).ownBlock∧some k_≠(.slice Ao46 t359.length co46 : Value).ownBlock∧some k_≠(.slice Ao52 t368.length co52 : Value).ownBlock) (Kd.R_keptB ((Kd.R_apart' HO357.out (Kd.R_typed HO353.out) (by decide))) hkp (fun k_ hk_ hs_ => (hk_.2) hs_)) (fun k_ hk_ => by first|exact ⟨hk_.1.1.1.1.1.2,hk_.1.1.1.1.2,hk_.1.1.1.2,hk_.1.1.2⟩|(simp only [and_assoc] at hk_;exact ⟨hk_.1,hk_.2.1,hk_.2.2.1,hk_.2.2.2.1⟩)));have n6_:=Aside0.mk (blk_kept (by (with_reducible repeat (first|refine blk_drewN ?_ _|refine blk_drew ?_|refine blk_alloc ?_ _));exact BK358.out) hkp (fun hs_ => (fun e_ => (Kd.R_ne HO353.out BK358.out (by decide)) e_) hs_));have n7_:=Aside0.mk (Kd.R_mono (ok':=fun k_ => some k_≠(.slice Ao35 t345.length co35 : Value).ownBlock∧some k_≠(.slice Ao47 t348.length co47 : Value).ownBlock∧some k_≠(.slice Ao43 t355.length co43 : Value).ownBlock∧some k_≠(.slice Ao52 t368.length co52 : Value).ownBlock) (Kd.R_keptB ((Kd.R_apart' HO361.out (Kd.R_typed HO353.out) (by decide))) hkp (fun k_ hk_ hs_ => (hk_.2) hs_)) (fun k_ hk_ => by first|exact ⟨hk_.1.1.1.1.1.2,hk_.1.1.1.1.2,hk_.1.1.1.2,hk_.1.1.2⟩|(simp only [and_assoc] at hk_;exact ⟨hk_.1,hk_.2.1,hk_.2.2.1,hk_.2.2.2.1⟩)));have n8_:=Aside0.mk (Kd.R_mono (ok':=fun k_ => some k_≠(.slice Ao34 t341.length co34 : Value).ownBlock∧some k_≠(.slice Ao44 t351.length co44 : Value).ownBlock) (Kd.R_keptB (HO365.out) hkp (fun k_ hk_ hs_ => (hk_.2) hs_)) (fun k_ hk_ => by first|exact ⟨hk_.1.1.2,hk_.1.2⟩|(simp only [and_assoc] at hk_;exact ⟨hk_.1,hk_.2.1⟩)));have n9_:=Aside0.mk (Kd.R_mono (ok':=fun k_ => some k_≠(.slice Ao35 t345.length co35 : Value).ownBlock∧some k_≠(.slice Ao47 t348.length co47 : Value).ownBlock∧some k_≠(.slice Ao43 t355.length co43 : Value).ownBlock∧some k_≠(.slice Ao46 t359.length co46 : Value).ownBlock) (Kd.R_keptB ((Kd.R_apart' HO370.out (Kd.R_typed HO353.out) (by decide))) hkp (fun k_ hk_ hs_ => (hk_.2) hs_)) (fun k_ hk_ => by first|exact ⟨hk_.1.1.1.1.1.2,hk_.1.1.1.1.2,hk_.1.1.1.2,hk_.1.1.2⟩|(simp only [and_assoc] at hk_;exact ⟨hk_.1,hk_.2.1,hk_.2.2.1,hk_.2.2.2.1⟩)));have n10_:=Aside0.mk (hb);clear BK338 HO343 HO347 HO350 HO353 HO357 BK358 HO361 HO365 HO370 HB;have BK338:=n0_;have HO343:=n1_;have HO347:=n2_;have HO350:=n3_;have HO353:=n4_;have HO357:=n5_;have BK358:=n6_;have HO361:=n7_;have HO365:=n8_;have HO370:=n9_;have HB:=n10_;clear n0_ n1_ n2_ n3_ n4_ n5_ n6_ n7_ n8_ n9_ n10_;(try clear hb);(try clear hkp);(try clear hy0);have hcz55_0 : w54.cell? ⟨gb358,0,none⟩ = some (.int .i64 t354):=(blk_cell BK358.out 0).trans rfl;have hcz55_1 : w54.cell? ⟨gb358,1,none⟩ = some (.slice Ao43 t355.length co43):=(blk_cell BK358.out 1).trans rfl;have hfz55_0:=blk_frozen BK358.out 0;have hfz55_1:=blk_frozen BK358.out 1)|((with_reducible refine gate_callee (f:=28) rfl ?_);refine goesL_ (some 55) rfl rfl Tryd.func28 (by kernel_rfl) rfl #[.agg #[.int .i64 t354,.slice Ao43 t355.length co43],.int .i64 t372] rfl (by (try simp only [List.map_toArray,List.map_cons,List.map_nil]);first|done|rfl|(simp only [List.length_drop,List.length_take];rfl)) ?_;(with_reducible refine (laws_markNursery.calls k t354 (fun k_ => some k_ = (.slice Ao43 t355.length co43 : Value).ownBlock) (.slice Ao43 t355.length co43) t355 t372 t374 t375 w _ ?side1 ?side2 A26.out).mono ?_);(case side1 => repeat (first|(with_reducible first|exact HB.out|apply below_alloc|apply pw_below_drewN|apply below_drew1|refine below_set ?_ GE338.out|refine below_set ?_ GE358.out)|exact HB.out));(case side2 => exact Kd.R_tight rfl HO357.out);rintro e w56 ⟨rfl,hy0,hb,hkp⟩;refine ⟨_,rfl,?_⟩;have n0_:=Aside0.mk (blk_kept (by (with_reducible repeat (first|refine blk_drewN ?_ _|refine blk_drew ?_|refine blk_alloc ?_ _));exact BK338.out) hkp (fun hs_ => (fun e_ => (Kd.R_ne HO357.out BK338.out (by decide)) e_) hs_));have n1_:=Aside0.mk (Kd.R_mono (ok':=fun k_ => some k_≠(.slice Ao44 t351.length co44 : Value).ownBlock∧some k_≠(.slice Ao49 t363.length co49 : Value).ownBlock) (Kd.R_keptB ((Kd.R_apart' HO343.out (Kd.R_typed HO357.out) (by decide))) hkp (fun k_ hk_ hs_ => (hk_.2) hs_)) (fun k_ hk_ => by first|exact ⟨hk_.1.1.1,hk_.1.1.2⟩|(simp only [and_assoc] at hk_;exact ⟨hk_.1,hk_.2.1⟩)));have n2_:=Aside0.mk (Kd.R_mono (ok':=fun k_ => some k_≠(.slice Ao47 t348.length co47 : Value).ownBlock∧some k_≠(.slice Ao43 t355.length co43 : Value).ownBlock∧some k_≠(.slice Ao46 t359.length co46 : Value).ownBlock∧some k_≠(.slice Ao52 t368.length co52 : Value).ownBlock) (Kd.R_keptB (HO347.out) hkp (fun k_ hk_ hs_ => by first|exact hk_.2.1 hs_|exact hk_.1 hs_|exact hk_.2.1 hs_|exact hk_.2 hs_|exact hk_.2.2.1 hs_|exact hk_.2.2 hs_|exact hk_.2.2.2 hs_)) (fun k_ hk_ => by first|exact ⟨hk_.1.1,hk_.1.2.1,hk_.1.2.2.1,hk_.1.2.2.2⟩|(simp only [and_assoc] at hk_;exact ⟨hk_.1,hk_.2.1,hk_.2.2.1,hk_.2.2.2.1⟩)));have n3_:=Aside0.mk (Kd.R_mono (ok':=fun k_ => some k_≠(.slice Ao35 t345.length co35 : Value).ownBlock∧some k_≠(.slice Ao43 t355.length co43 : Value).ownBlock∧some k_≠(.slice Ao46 t359.length co46 : Value).ownBlock∧some k_≠(.slice Ao52 t368.length co52 : Value).ownBlock) (Kd.R_keptB (HO350.out) hkp (fun k_ hk_ hs_ => by first|exact hk_.2.1 hs_|exact hk_.1 hs_|exact hk_.2.1 hs_|exact hk_.2 hs_|exact hk_.2.2.1 hs_|exact hk_.2.2 hs_|exact hk_.2.2.2 hs_)) (fun k_ hk_ => by first|exact ⟨hk_.1.1,hk_.1.2.1,hk_.1.2.2.1,hk_.1.2.2.2⟩|(simp only [and_assoc] at hk_;exact ⟨hk_.1,hk_.2.1,hk_.2.2.1,hk_.2.2.2.1⟩)));have n4_:=Aside0.mk (Kd.R_mono (ok':=fun k_ => some k_≠(.slice Ao34 t341.length co34 : Value).ownBlock∧some k_≠(.slice Ao49 t363.length co49 : Value).ownBlock) (Kd.R_keptB ((Kd.R_apart' HO353.out (Kd.R_typed HO357.out) (by decide))) hkp (fun k_ hk_ hs_ => (hk_.2) hs_)) (fun k_ hk_ => by first|exact ⟨hk_.1.1.1.2,hk_.1.1.2⟩|(simp only [and_assoc] at hk_;exact ⟨hk_.1,hk_.2.1⟩)));have n5_:=Aside0.mk (Kd.R_reok rfl hy0 (fun k_ e_ => HO357.out.1 k_ e_));have n6_:=Aside0.mk (blk_kept (by (with_reducible repeat (first|refine blk_drewN ?_ _|refine blk_drew ?_|refine blk_alloc ?_ _));exact BK358.out) hkp (fun hs_ => (fun e_ => (Kd.R_ne HO357.out BK358.out (by decide)) e_) hs_));have n7_:=Aside0.mk (Kd.R_mono (ok':=fun k_ => some k_≠(.slice Ao35 t345.length co35 : Value).ownBlock∧some k_≠(.slice Ao47 t348.length co47 : Value).ownBlock∧some k_≠(.slice Ao43 t355.length co43 : Value).ownBlock∧some k_≠(.slice Ao52 t368.length co52 : Value).ownBlock) (Kd.R_keptB (HO361.out) hkp (fun k_ hk_ hs_ => by first|exact hk_.2.2.1 hs_|exact hk_.1 hs_|exact hk_.2.1 hs_|exact hk_.2 hs_|exact hk_.2.2.1 hs_|exact hk_.2.2 hs_|exact hk_.2.2.2 hs_)) (fun k_ hk_ => by first|exact ⟨hk_.1.1,hk_.1.2.1,hk_.1.2.2.1,hk_.1.2.2.2⟩|(simp only [and_assoc] at hk_;exact ⟨hk_.1,hk_.2.1,hk_.2.2.1,hk_.2.2.2.1⟩)));have n8_:=Aside0.mk (Kd.R_mono (ok':=fun k_ => some k_≠(.slice Ao34 t341.length co34 : Value).ownBlock∧some k_≠(.slice Ao44 t351.length co44 : Value).ownBlock) (Kd.R_keptB ((Kd.R_apart' HO365.out (Kd.R_typed HO357.out) (by decide))) hkp (fun k_ hk_ hs_ => (hk_.2) hs_)) (fun k_ hk_ => by first|exact ⟨hk_.1.1.1,hk_.1.1.2⟩|(simp only [and_assoc] at hk_;exact ⟨hk_.1,hk_.2.1⟩)));have n9_:=Aside0.mk (Kd.R_mono (ok':=fun k_ => some k_≠(.slice Ao35 t345.length co35 : Value).ownBlock∧some k_≠(.slice Ao47 t348.length co47 : Value).ownBlock∧some k_≠(.slice Ao43 t355.length co43 : Value).ownBlock∧some k_≠(.slice Ao46 t359.length co46 : Value).ownBlock) (Kd.R_keptB (HO370.out) hkp (fun k_ hk_ hs_ => by first|exact hk_.2.2.1 hs_|exact hk_.1 hs_|exact hk_.2.1 hs_|exact hk_.2 hs_|exact hk_.2.2.1 hs_|exact hk_.2.2 hs_|exact hk_.2.2.2 hs_)) (fun k_ hk_ => by first|exact ⟨hk_.1.1,hk_.1.2.1,hk_.1.2.2.1,hk_.1.2.2.2⟩|(simp only [and_assoc] at hk_;exact ⟨hk_.1,hk_.2.1,hk_.2.2.1,hk_.2.2.2.1⟩)));have n10_:=Aside0.mk (hb);clear BK338 HO343 HO347 HO350 HO353 HO357 BK358 HO361 HO365 HO370 HB;have BK338:=n0_;have HO343:=n1_;have HO347:=n2_;have HO350:=n3_;have HO353:=n4_;have HO357:=n5_;have BK358:=n6_;have HO361:=n7_;have HO365:=n8_;have HO370:=n9_;have HB:=n10_;clear n0_ n1_ n2_ n3_ n4_ n5_ n6_ n7_ n8_ n9_ n10_;(try clear hb);(try clear hkp);(try clear hy0)))
      (try simp only [Act.put,List.setIfInBounds_toArray,List.set_cons_zero,List.set_cons_succ])
      go_cut [63] (fun v63 wc => ∃ (kq : Nat) (x63_26 : Bool),v63 = .bool x63_26∧Aside0 (laws_FnExactAges.j0 kq l0 t348 t359 x63_26 a1_0 l1_1 = some r)∧Aside0 (kq ≤ k)∧Aside0 (Kd.R (Kd.int .i64) 2 wc w.heap.size (fun k_ => some k_≠((.slice Ao46 t359.length co46) : Value).ownBlock∧some k_≠((.slice Ao43 t355.length co43) : Value).ownBlock) (.slice Ao47 t348.length co47) t348)∧Aside0 (Kd.R (Kd.int .i64) 2 wc w.heap.size (fun k_ => some k_≠((.slice Ao47 t348.length co47) : Value).ownBlock∧some k_≠((.slice Ao43 t355.length co43) : Value).ownBlock) (.slice Ao46 t359.length co46) t359)∧Aside0 (Kd.R (Kd.int .i64) 2 wc w.heap.size (fun k_ => some k_≠((.slice Ao47 t348.length co47) : Value).ownBlock∧some k_≠((.slice Ao46 t359.length co46) : Value).ownBlock) (.slice Ao43 t355.length co43) t375)∧Aside0 (wc.heap[gb338]? = some (.cells #[.int .i64 a1_0,(.slice A1_1 l1_1.length c1_1)] 25 (0,0)))∧Aside0 (wc.heap[gb358]? = some (.cells #[.int .i64 t354,(.slice Ao43 t355.length co43)] 30 (0,0)))∧Aside0 (Below w.heap.size w wc))
      case first =>
       have H:=HC27.out
       clear HC27
       by_cases c57 : t374 < 0
       ·rw [if_pos c57] at H
        have c57b0 : decide (t374 < 0) = true:=decide_eq_true c57
        clear c57
        (first|rw [c57b0]|(simp only [i64_w,i32_w];rw [c57b0])|skip)
        have H':=Aside0.mk H
        clear H
        go_wp2
        go_meet
        case rel => exact ⟨_,(true),(by first|rfl|(simp;done)|(simp [*];done)),H',⟨by first|omega|exact Nat.le_refl _⟩,⟨by (with_reducible repeat (first|apply Kd.R_alloc|apply Kd.R_drewN|apply Kd.R_drew));exact Kd.R_mono HO350.out (fun _ hk => ⟨hk.2.2.1,hk.2.1⟩)⟩,⟨by (with_reducible repeat (first|apply Kd.R_alloc|apply Kd.R_drewN|apply Kd.R_drew));exact Kd.R_mono HO361.out (fun _ hk => ⟨hk.2.1,hk.2.2.1⟩)⟩,⟨by (with_reducible repeat (first|apply Kd.R_alloc|apply Kd.R_drewN|apply Kd.R_drew));exact Kd.R_mono HO357.out (fun _ hk => ⟨hk.2.1,hk.2.2.1⟩)⟩,⟨by (with_reducible repeat (first|refine blk_drewN ?_ _|refine blk_drew ?_|refine blk_alloc ?_ _));exact BK338.out⟩,⟨by (with_reducible repeat (first|refine blk_drewN ?_ _|refine blk_drew ?_|refine blk_alloc ?_ _));exact BK358.out⟩,⟨by repeat (first|(with_reducible first|exact HB.out|apply below_alloc|apply pw_below_drewN|apply below_drew1|refine below_set ?_ GE338.out|refine below_set ?_ GE358.out)|exact HB.out)⟩⟩
       ·rw [if_neg c57] at H
        have c57b0 : decide (t374 < 0) = false:=decide_eq_false c57
        clear c57
        (first|rw [c57b0]|(simp only [i64_w,i32_w];rw [c57b0])|skip)
        replace H:=Option.bind_eq_some_iff.mp H
        obtain ⟨t376,A580,H⟩:=H
        replace H : (laws_FnExactAges.j0 k l0 t348 t359 (!t376) a1_0 l1_1) = some r:=H
        have A58:=Aside0.mk A580
        clear A580
        have H':=Aside0.mk H
        clear H
        go_wp2_with (first|(go_at_call 26;(with_reducible refine (laws_eqInt64S.calls k _ _ t359 _ _ t348 t376 _ ?side1 ?side2 ?side3 ?side4 A58.out).mono ?_);(case side1 => repeat (first|exact (Kd.R_reads' HO361.out).2.2|(with_reducible first|refine Kd.C_alloc ?_ _|refine Kd.C_drewN ?_ _|refine Kd.C_drew ?_)));(case side2 => exact (Kd.R_reads' HO361.out).2.1);(case side3 => repeat (first|exact (Kd.R_reads' HO350.out).2.2|(with_reducible first|refine Kd.C_alloc ?_ _|refine Kd.C_drewN ?_ _|refine Kd.C_drew ?_)));(case side4 => exact (Kd.R_reads' HO350.out).2.1);rintro e w' ⟨rfl,⟨nd,rfl⟩⟩))
        go_meet
        case rel => exact ⟨_,(!t376),(by first|rfl|(simp;done)|(simp [*];done)),H',⟨by first|omega|exact Nat.le_refl _⟩,⟨by (with_reducible repeat (first|apply Kd.R_alloc|apply Kd.R_drewN|apply Kd.R_drew));exact Kd.R_mono HO350.out (fun _ hk => ⟨hk.2.2.1,hk.2.1⟩)⟩,⟨by (with_reducible repeat (first|apply Kd.R_alloc|apply Kd.R_drewN|apply Kd.R_drew));exact Kd.R_mono HO361.out (fun _ hk => ⟨hk.2.1,hk.2.2.1⟩)⟩,⟨by (with_reducible repeat (first|apply Kd.R_alloc|apply Kd.R_drewN|apply Kd.R_drew));exact Kd.R_mono HO357.out (fun _ hk => ⟨hk.2.1,hk.2.2.1⟩)⟩,⟨by (with_reducible repeat (first|refine blk_drewN ?_ _|refine blk_drew ?_|refine blk_alloc ?_ _));exact BK338.out⟩,⟨by (with_reducible repeat (first|refine blk_drewN ?_ _|refine blk_drew ?_|refine blk_alloc ?_ _));exact BK358.out⟩,⟨by repeat (first|(with_reducible first|exact HB.out|apply below_alloc|apply pw_below_drewN|apply below_drew1|refine below_set ?_ GE338.out|refine below_set ?_ GE358.out)|exact HB.out)⟩⟩
      case rest =>
       clear HC27
       try clear c1
       try clear c2
       try clear p2
       try clear c3
       try clear c4
       try clear c4b0
       try clear c5
       try clear c7
       try clear c7b0
       try clear c16
       try clear c17
       try clear c18
       try clear c19
       try clear c20
       try clear c21
       try clear c22
       try clear c23
       try clear c24
       try clear c26
       try clear c27
       try clear c28
       try clear c31
       try clear c32
       try clear c41
       try clear c57
       try clear c57b0
       try clear hcz29_0
       try clear hcz29_1
       try clear hcz38_0
       try clear hcz38_1
       try clear hcz42_0
       try clear hcz42_1
       try clear hcz55_0
       try clear hcz55_1
       try clear hcz9_0
       try clear hcz9_1
       try clear hfz29_0
       try clear hfz29_1
       try clear hfz38_0
       try clear hfz38_1
       try clear hfz42_0
       try clear hfz42_1
       try clear hfz55_0
       try clear hfz55_1
       try clear hfz9_0
       try clear hfz9_1
       obtain ⟨kq,x63_26,rfl,HA,HJ26,HO_6,HO_9,HO_359001,BK338,BK358,HB⟩:=hcut
       have hl359001_26:=(Kd.R_reads' HO_359001.out).1
       rw [hl359001_26] at HO_359001
       (try simp only [hl359001_26])
       (try simp only [hl359001_26] at BK338)
       (try simp only [hl359001_26] at BK358)
       (try simp only [hl359001_26] at HO_6)
       (try simp only [hl359001_26] at HO_9)
       cases kq with
       | zero => exact absurd HA.out (by simp [laws_FnExactAges.j0])
       | succ kj26 =>
        have H:=HA.out
        clear HA
        simp only [laws_FnExactAges.j0] at H
        by_cases c59 : x63_26 = true
        ·subst c59
         have H1 : (some false) = some r:=by rw [if_pos rfl] at H;exact H
         clear H
         have H:=H1
         clear H1
         obtain rfl:=Option.some.inj H
         go_wp2
         go_ret
         exact ⟨by first|rfl|(simp [errW_none,errW_some] <;> rfl)|(simp [*,errW_none,errW_some] <;> rfl),by repeat (first|(with_reducible first|exact HB.out|apply below_alloc|apply pw_below_drewN|apply below_drew1|refine below_set ?_ GE338.out|refine below_set ?_ GE358.out)|exact HB.out)⟩
        ·replace c59:=Bool.eq_false_iff.mpr c59
         subst c59
         have H1 : ((laws_markInt64S.f kj26 t359 1).bind fun bt377 => ((laws_heldInt64S.f kj26 bt377.2 1).bind fun t379 => (if t379 < 0 then (some false) else (if t379 = bt377.1 then ((laws_toStringS.f kj26 l0).bind fun t380 => ((laws_toNursery.f kj26 a1_0 l1_1).bind fun bt383 => ((impl_Ages.f kj26 t380 bt383.1 bt383.2).bind fun t387 => ((laws_eqInt64S.f kj26 t387 t348).bind fun t390 => (if t390 = true then ((laws_heldInt64S.f kj26 bt377.2 1).bind fun t391 => (if t391 < 0 then (some false) else (if t391 = bt377.1 then (some true) else (some false)))) else (some false)))))) else (some false))))) = some r:=by rw [if_neg (show ¬ (false = true) by decide)] at H;exact H
         clear H
         have H:=H1
         clear H1
         replace H:=Option.bind_eq_some_iff.mp H
         obtain ⟨⟨t377,t378⟩,A600,H⟩:=H
         replace H : ((laws_heldInt64S.f kj26 t378 1).bind fun t379 => (if t379 < 0 then (some false) else (if t379 = t377 then ((laws_toStringS.f kj26 l0).bind fun t380 => ((laws_toNursery.f kj26 a1_0 l1_1).bind fun bt383 => ((impl_Ages.f kj26 t380 bt383.1 bt383.2).bind fun t387 => ((laws_eqInt64S.f kj26 t387 t348).bind fun t390 => (if t390 = true then ((laws_heldInt64S.f kj26 t378 1).bind fun t391 => (if t391 < 0 then (some false) else (if t391 = t377 then (some true) else (some false)))) else (some false)))))) else (some false)))) = some r:=H
         have A60:=Aside0.mk A600
         clear A600
         replace H:=Option.bind_eq_some_iff.mp H
         obtain ⟨t379,A610,H⟩:=H
         replace H : (if t379 < 0 then (some false) else (if t379 = t377 then ((laws_toStringS.f kj26 l0).bind fun t380 => ((laws_toNursery.f kj26 a1_0 l1_1).bind fun bt383 => ((impl_Ages.f kj26 t380 bt383.1 bt383.2).bind fun t387 => ((laws_eqInt64S.f kj26 t387 t348).bind fun t390 => (if t390 = true then ((laws_heldInt64S.f kj26 t378 1).bind fun t391 => (if t391 < 0 then (some false) else (if t391 = t377 then (some true) else (some false)))) else (some false)))))) else (some false))) = some r:=H
         have A61:=Aside0.mk A610
         clear A610
         by_cases c62 : t379 < 0
         ·rw [if_pos c62] at H
          have c62b0 : decide (t379 < 0) = true:=decide_eq_true c62
          clear c62
          obtain rfl:=Option.some.inj H
          go_wp2_with (first|((with_reducible refine gate_callee (f:=29) rfl ?_);refine goesL_ (some 66) rfl rfl Tryd.func29 (by kernel_rfl) rfl #[.slice Ao46 t359.length co46,.int .i64 1] rfl (by (try simp only [List.map_toArray,List.map_cons,List.map_nil]);first|done|rfl|(simp only [List.length_drop,List.length_take];rfl)) ?_;(with_reducible refine (laws_markInt64S.calls kj26 (fun k_ => some k_ = (.slice Ao46 t359.length co46 : Value).ownBlock) (.slice Ao46 t359.length co46) t359 1 t377 t378 w _ ?side1 ?side2 A60.out).mono ?_);(case side1 => repeat (first|(with_reducible first|exact HB.out|apply below_alloc|apply pw_below_drewN|apply below_drew1|refine below_set ?_ GE338.out|refine below_set ?_ GE358.out)|exact HB.out));(case side2 => exact Kd.R_tight rfl HO_9.out);rintro e w63 ⟨rfl,hy0,hb,hkp⟩;refine ⟨_,rfl,?_⟩;have n0_:=Aside0.mk (Kd.R_mono (ok':=fun k_ => some k_≠(.slice Ao46 t359.length co46 : Value).ownBlock∧some k_≠(.slice Ao43 t375.length co43 : Value).ownBlock) (Kd.R_keptB (HO_6.out) hkp (fun k_ hk_ hs_ => by first|exact hk_.1 hs_|exact hk_.1 hs_|exact hk_.2.1 hs_|exact hk_.2 hs_|exact hk_.2.2.1 hs_|exact hk_.2.2 hs_|exact hk_.2.2.2 hs_)) (fun k_ hk_ => by first|exact ⟨hk_.1.1,hk_.1.2⟩|(simp only [and_assoc] at hk_;exact ⟨hk_.1,hk_.2.1⟩)));have n1_:=Aside0.mk (Kd.R_reok rfl hy0 (fun k_ e_ => HO_9.out.1 k_ e_));have n2_:=Aside0.mk (Kd.R_mono (ok':=fun k_ => some k_≠(.slice Ao47 t348.length co47 : Value).ownBlock∧some k_≠(.slice Ao46 t359.length co46 : Value).ownBlock) (Kd.R_keptB (HO_359001.out) hkp (fun k_ hk_ hs_ => (hk_.2) hs_)) (fun k_ hk_ => by first|exact ⟨hk_.1.1,hk_.1.2⟩|(simp only [and_assoc] at hk_;exact ⟨hk_.1,hk_.2.1⟩)));have n3_:=Aside0.mk (blk_kept (by (with_reducible repeat (first|refine blk_drewN ?_ _|refine blk_drew ?_|refine blk_alloc ?_ _));exact BK338.out) hkp (fun hs_ => (fun e_ => (Kd.R_ne HO_9.out BK338.out (by decide)) e_) hs_));have n4_:=Aside0.mk (blk_kept (by (with_reducible repeat (first|refine blk_drewN ?_ _|refine blk_drew ?_|refine blk_alloc ?_ _));exact BK358.out) hkp (fun hs_ => (fun e_ => (Kd.R_ne HO_9.out BK358.out (by decide)) e_) hs_));have n5_:=Aside0.mk (hb);clear HO_6 HO_9 HO_359001 BK338 BK358 HB;have HO_6:=n0_;have HO_9:=n1_;have HO_359001:=n2_;have BK338:=n3_;have BK358:=n4_;have HB:=n5_;clear n0_ n1_ n2_ n3_ n4_ n5_;(try clear hb);(try clear hkp);(try clear hy0))|((with_reducible refine gate_callee (f:=30) rfl ?_);refine goesL_ (some 69) rfl rfl Tryd.func30 (by kernel_rfl) rfl #[.slice Ao46 t378.length co46,.int .i64 1] rfl (by (try simp only [List.map_toArray,List.map_cons,List.map_nil]);first|done|(rw [show t378.length = t359.length from (Kd.R_reads' HO_9.out).1.symm] <;> rfl)|rfl|(simp only [List.length_drop,List.length_take];rfl)) ?_;(with_reducible refine (laws_heldInt64S.calls kj26 _ _ t378 1 t379 _ ?side1 ?side2 A61.out).mono ?_);(case side1 => repeat (first|exact (Kd.R_reads' HO_9.out).2.2|(with_reducible first|refine Kd.C_alloc ?_ _|refine Kd.C_drewN ?_ _|refine Kd.C_drew ?_)));(case side2 => rw [show t378.length = t359.length from (Kd.R_reads' HO_9.out).1.symm];exact (Kd.R_reads' HO_9.out).2.1);rintro e w' ⟨rfl,⟨nd,rfl⟩⟩;refine ⟨_,rfl,?_⟩))
          go_ret
          exact ⟨by first|rfl|(simp [errW_none,errW_some] <;> rfl)|(simp [*,errW_none,errW_some] <;> rfl),by repeat (first|(with_reducible first|exact HB.out|apply below_alloc|apply pw_below_drewN|apply below_drew1|refine below_set ?_ GE338.out|refine below_set ?_ GE358.out)|exact HB.out)⟩
         ·rw [if_neg c62] at H
          have c62b0 : decide (t379 < 0) = false:=decide_eq_false c62
          clear c62
          by_cases c64 : t379 = t377
          ·rw [if_pos c64] at H
           have c64b0 : (t379 == t377) = true:=beq_iff_eq.mpr c64
           have c64b1 : (t379 != t377) = false:=bne_eq_false_iff_eq.mpr c64
           clear c64
           replace H:=Option.bind_eq_some_iff.mp H
           obtain ⟨t380,A650,H⟩:=H
           replace H : ((laws_toNursery.f kj26 a1_0 l1_1).bind fun bt383 => ((impl_Ages.f kj26 t380 bt383.1 bt383.2).bind fun t387 => ((laws_eqInt64S.f kj26 t387 t348).bind fun t390 => (if t390 = true then ((laws_heldInt64S.f kj26 t378 1).bind fun t391 => (if t391 < 0 then (some false) else (if t391 = t377 then (some true) else (some false)))) else (some false))))) = some r:=H
           have A65:=Aside0.mk A650
           clear A650
           replace H:=Option.bind_eq_some_iff.mp H
           obtain ⟨⟨t383,t384⟩,A660,H⟩:=H
           replace H : ((impl_Ages.f kj26 t380 t383 t384).bind fun t387 => ((laws_eqInt64S.f kj26 t387 t348).bind fun t390 => (if t390 = true then ((laws_heldInt64S.f kj26 t378 1).bind fun t391 => (if t391 < 0 then (some false) else (if t391 = t377 then (some true) else (some false)))) else (some false)))) = some r:=H
           have A66:=Aside0.mk A660
           clear A660
           replace H:=Option.bind_eq_some_iff.mp H
           obtain ⟨t387,A670,H⟩:=H
           replace H : ((laws_eqInt64S.f kj26 t387 t348).bind fun t390 => (if t390 = true then ((laws_heldInt64S.f kj26 t378 1).bind fun t391 => (if t391 < 0 then (some false) else (if t391 = t377 then (some true) else (some false)))) else (some false))) = some r:=H
           have A67:=Aside0.mk A670
           clear A670
           replace H:=Option.bind_eq_some_iff.mp H
           obtain ⟨t390,A680,H⟩:=H
           replace H : (if t390 = true then ((laws_heldInt64S.f kj26 t378 1).bind fun t391 => (if t391 < 0 then (some false) else (if t391 = t377 then (some true) else (some false)))) else (some false)) = some r:=H
           have A68:=Aside0.mk A680
           clear A680
           by_cases c69 : t390 = true
           ·subst c69
            have H1 : ((laws_heldInt64S.f kj26 t378 1).bind fun t391 => (if t391 < 0 then (some false) else (if t391 = t377 then (some true) else (some false)))) = some r:=by rw [if_pos rfl] at H;exact H
            clear H
            have H:=H1
            clear H1
            replace H:=Option.bind_eq_some_iff.mp H
            obtain ⟨t391,A700,H⟩:=H
            replace H : (if t391 < 0 then (some false) else (if t391 = t377 then (some true) else (some false))) = some r:=H
            have A70:=Aside0.mk A700
            clear A700
            by_cases c71 : t391 < 0
            ·rw [if_pos c71] at H
             have c71b0 : decide (t391 < 0) = true:=decide_eq_true c71
             clear c71
             obtain rfl:=Option.some.inj H
             try go_wp2_with (first|((with_reducible refine gate_callee (f:=29) rfl ?_);refine goesL_ (some 66) rfl rfl Tryd.func29 (by kernel_rfl) rfl #[.slice Ao46 t359.length co46,.int .i64 1] rfl (by (try simp only [List.map_toArray,List.map_cons,List.map_nil]);first|done|rfl|(simp only [List.length_drop,List.length_take];rfl)) ?_;(with_reducible refine (laws_markInt64S.calls kj26 (fun k_ => some k_ = (.slice Ao46 t359.length co46 : Value).ownBlock) (.slice Ao46 t359.length co46) t359 1 t377 t378 w _ ?side1 ?side2 A60.out).mono ?_);(case side1 => repeat (first|(with_reducible first|exact HB.out|apply below_alloc|apply pw_below_drewN|apply below_drew1|refine below_set ?_ GE338.out|refine below_set ?_ GE358.out)|exact HB.out));(case side2 => exact Kd.R_tight rfl HO_9.out);rintro e w72 ⟨rfl,hy0,hb,hkp⟩;refine ⟨_,rfl,?_⟩;have n0_:=Aside0.mk (Kd.R_mono (ok':=fun k_ => some k_≠(.slice Ao46 t359.length co46 : Value).ownBlock∧some k_≠(.slice Ao43 t375.length co43 : Value).ownBlock) (Kd.R_keptB (HO_6.out) hkp (fun k_ hk_ hs_ => by first|exact hk_.1 hs_|exact hk_.1 hs_|exact hk_.2.1 hs_|exact hk_.2 hs_|exact hk_.2.2.1 hs_|exact hk_.2.2 hs_|exact hk_.2.2.2 hs_)) (fun k_ hk_ => by first|exact ⟨hk_.1.1,hk_.1.2⟩|(simp only [and_assoc] at hk_;exact ⟨hk_.1,hk_.2.1⟩)));have n1_:=Aside0.mk (Kd.R_reok rfl hy0 (fun k_ e_ => HO_9.out.1 k_ e_));have n2_:=Aside0.mk (Kd.R_mono (ok':=fun k_ => some k_≠(.slice Ao47 t348.length co47 : Value).ownBlock∧some k_≠(.slice Ao46 t359.length co46 : Value).ownBlock) (Kd.R_keptB (HO_359001.out) hkp (fun k_ hk_ hs_ => (hk_.2) hs_)) (fun k_ hk_ => by first|exact ⟨hk_.1.1,hk_.1.2⟩|(simp only [and_assoc] at hk_;exact ⟨hk_.1,hk_.2.1⟩)));have n3_:=Aside0.mk (blk_kept (by (with_reducible repeat (first|refine blk_drewN ?_ _|refine blk_drew ?_|refine blk_alloc ?_ _));exact BK338.out) hkp (fun hs_ => (fun e_ => (Kd.R_ne HO_9.out BK338.out (by decide)) e_) hs_));have n4_:=Aside0.mk (blk_kept (by (with_reducible repeat (first|refine blk_drewN ?_ _|refine blk_drew ?_|refine blk_alloc ?_ _));exact BK358.out) hkp (fun hs_ => (fun e_ => (Kd.R_ne HO_9.out BK358.out (by decide)) e_) hs_));have n5_:=Aside0.mk (hb);clear HO_6 HO_9 HO_359001 BK338 BK358 HB;have HO_6:=n0_;have HO_9:=n1_;have HO_359001:=n2_;have BK338:=n3_;have BK358:=n4_;have HB:=n5_;clear n0_ n1_ n2_ n3_ n4_ n5_;(try clear hb);(try clear hkp);(try clear hy0))|((with_reducible refine gate_callee (f:=30) rfl ?_);refine goesL_ (some 69) rfl rfl Tryd.func30 (by kernel_rfl) rfl #[.slice Ao46 t378.length co46,.int .i64 1] rfl (by (try simp only [List.map_toArray,List.map_cons,List.map_nil]);first|done|(rw [show t378.length = t359.length from (Kd.R_reads' HO_9.out).1.symm] <;> rfl)|rfl|(simp only [List.length_drop,List.length_take];rfl)) ?_;(with_reducible refine (laws_heldInt64S.calls kj26 _ _ t378 1 t379 _ ?side1 ?side2 A61.out).mono ?_);(case side1 => repeat (first|exact (Kd.R_reads' HO_9.out).2.2|(with_reducible first|refine Kd.C_alloc ?_ _|refine Kd.C_drewN ?_ _|refine Kd.C_drew ?_)));(case side2 => rw [show t378.length = t359.length from (Kd.R_reads' HO_9.out).1.symm];exact (Kd.R_reads' HO_9.out).2.1);rintro e w' ⟨rfl,⟨nd,rfl⟩⟩;refine ⟨_,rfl,?_⟩))
             (try (rw [drewN_self w72];generalize hq_ : World.drewN w72 _ = w72;have n0_ : Aside0 (Kd.R (Kd.int .i64) 2 w72 w.heap.size (fun k_ => some k_≠(.slice Ao47 t348.length co47 : Value).ownBlock∧some k_≠(.slice Ao46 t359.length co46 : Value).ownBlock) (.slice Ao43 t375.length co43) t375):=⟨by rw [← hq_];exact (by (with_reducible repeat (first|apply Kd.R_alloc|apply Kd.R_drewN|apply Kd.R_drew));exact HO_359001.out)⟩;have n1_ : Aside0 (Kd.R (Kd.int .i64) 2 w72 w.heap.size (fun k_ => some k_≠(.slice Ao43 t375.length co43 : Value).ownBlock∧some k_≠(.slice Ao46 t359.length co46 : Value).ownBlock) (.slice Ao47 t348.length co47) t348):=⟨by rw [← hq_];exact (by (with_reducible repeat (first|apply Kd.R_alloc|apply Kd.R_drewN|apply Kd.R_drew));exact Kd.R_mono HO_6.out (fun _ hk => ⟨hk.2,hk.1⟩))⟩;have n2_ : Aside0 (Kd.R (Kd.int .i64) 2 w72 w.heap.size (fun k_ => some k_≠(.slice Ao43 t375.length co43 : Value).ownBlock∧some k_≠(.slice Ao47 t348.length co47 : Value).ownBlock) (.slice Ao46 t359.length co46) t378):=⟨by rw [← hq_];exact (by (with_reducible repeat (first|apply Kd.R_alloc|apply Kd.R_drewN|apply Kd.R_drew));exact Kd.R_mono HO_9.out (fun _ hk => ⟨hk.2,hk.1⟩))⟩;have n3_ : Aside0 (w72.heap[gb338]? = some (.cells #[.int .i64 a1_0,.slice A1_1 l1_1.length c1_1] 25 (0,0))):=⟨by rw [← hq_];exact (by (with_reducible repeat (first|refine blk_drewN ?_ _|refine blk_drew ?_|refine blk_alloc ?_ _));exact BK338.out)⟩;have n4_ : Aside0 (w72.heap[gb358]? = some (.cells #[.int .i64 t354,.slice Ao43 t375.length co43] 30 (0,0))):=⟨by rw [← hq_];exact (by (with_reducible repeat (first|refine blk_drewN ?_ _|refine blk_drew ?_|refine blk_alloc ?_ _));exact BK358.out)⟩;have n5_ : Aside0 (Below w.heap.size w w72):=⟨by rw [← hq_];exact (by repeat (first|(with_reducible first|exact HB.out|apply below_alloc|apply pw_below_drewN|apply below_drew1|refine below_set ?_ GE338.out|refine below_set ?_ GE358.out)|exact HB.out))⟩;clear HO_359001 HO_6 HO_9 BK338 BK358 HB hq_;have HO_359001:=n0_;have HO_6:=n1_;have HO_9:=n2_;have BK338:=n3_;have BK358:=n4_;have HB:=n5_;clear n0_ n1_ n2_ n3_ n4_ n5_))
             have n0_:=Aside0.mk (Kd.R_drew HO_6.out)
             have n1_:=Aside0.mk (Kd.R_drew HO_9.out)
             have n2_:=Aside0.mk (Kd.R_drew HO_359001.out)
             have n3_:=Aside0.mk (blk_drew BK338.out)
             have n4_:=Aside0.mk (blk_drew BK358.out)
             have n5_:=Aside0.mk (below_drew1 HB.out)
             clear HO_6
             clear HO_9
             clear HO_359001
             clear BK338
             clear BK358
             clear HB
             have HO_6:=n0_
             have HO_9:=n1_
             have HO_359001:=n2_
             have BK338:=n3_
             have BK358:=n4_
             have HB:=n5_
             clear n0_ n1_ n2_ n3_ n4_ n5_
             refine start_ (n:=6) (S:=fun w' => w'.cell? ⟨gb338,0,none⟩ = some (.int .i64 a1_0)∧w'.cell? ⟨gb338,1,none⟩ = some (.slice A1_1 l1_1.length c1_1)) (ds:=[]) #[false,false,false,false,false,false] (by kernel_rfl) rfl rfl ⟨(blk_cell BK338.out 0).trans rfl,(blk_cell BK338.out 1).trans rfl⟩ (fun hHeld => ?_)
             generalize w72.drew = w73 at HO_6 HO_9 HO_359001 BK338 BK358 HB hHeld ⊢
             refine pure_ (i:=0) (N:=some 75) (v:=?_) (a':=?_) #[true,false,false,false,false,false] rfl rfl (by kernel_rfl) (fun _ _ _ h => h) (Or.inl ⟨by rfl,?_⟩) ?_ ?_
             rotate_left
             ·intro w'
              go_simp
              with_reducible rfl
             rotate_left
             ·simp only [Act.put,List.setIfInBounds_toArray,List.set_cons_zero,List.set_cons_succ,i64_w,i32_w]
              rfl
             refine take_ (i:=2) (N:=some 77) (v:=?_) (a':=?_) #[true,false,true,false,false,false] rfl rfl (by kernel_rfl) (fun _ _ _ h => h) (Or.inl ⟨by rfl,?_⟩) hHeld ?_ ?_
             rotate_left
             ·rintro w' ⟨s0,s1⟩
              go_simp
              with_reducible rfl
             rotate_left
             ·simp only [Act.put,List.setIfInBounds_toArray,List.set_cons_zero,List.set_cons_succ,i64_w,i32_w]
              rfl
             refine one_ (i:=1) (N:=some 76) #[true,true,true,false,false,false] rfl rfl (by kernel_rfl) (by decide) (fun K hK => ?_)
             refine goes_ Tryd.func19 (by kernel_rfl) rfl #[.slice A0 l0.length c0] (by rfl) rfl rfl (by (try simp only [List.map_toArray,List.map_cons,List.map_nil]);first|done|rfl|(simp only [List.length_drop,List.length_take];rfl)) ?_
             with_reducible refine (laws_toStringS.calls kj26 _ _ l0 t380 _ ?side1 ?side2 A65.out).mono ?_
             (case side1 => repeat (first|exact (Kd.C_below HR0.out HB.out)|(with_reducible first|refine Kd.C_alloc ?_ _|refine Kd.C_drewN ?_ _|refine Kd.C_drew ?_)))
             (case side2 => exact HC0.out)
             rintro e w74 ⟨v381,rfl,ho0,hb⟩
             refine ⟨_,rfl,?_⟩
             have n0_:=Aside0.mk (Kd.R_below (by (with_reducible repeat (first|apply Kd.R_alloc|apply Kd.R_drewN|apply Kd.R_drew));exact HO_6.out) hb)
             have n1_:=Aside0.mk (Kd.R_below (by (with_reducible repeat (first|apply Kd.R_alloc|apply Kd.R_drewN|apply Kd.R_drew));exact HO_9.out) hb)
             have n2_:=Aside0.mk (Kd.R_below (by (with_reducible repeat (first|apply Kd.R_alloc|apply Kd.R_drewN|apply Kd.R_drew));exact HO_359001.out) hb)
             have n3_:=Aside0.mk (Kd.R_lower ho0 (below_size (by repeat (first|(with_reducible first|exact HB.out|apply below_alloc|apply pw_below_drewN|apply below_drew1|refine below_set ?_ GE338.out|refine below_set ?_ GE358.out)|exact HB.out))))
             have n4_:=Aside0.mk (blk_below (g:=gb338) (o:=.cells #[.int .i64 a1_0,.slice A1_1 l1_1.length c1_1] 25 (0,0)) (by (with_reducible repeat (first|refine blk_drewN ?_ _|refine blk_drew ?_|refine blk_alloc ?_ _));exact BK338.out) hb)
             have n5_:=Aside0.mk (blk_below (g:=gb358) (o:=.cells #[.int .i64 t354,.slice Ao43 t375.length co43] 30 (0,0)) (by (with_reducible repeat (first|refine blk_drewN ?_ _|refine blk_drew ?_|refine blk_alloc ?_ _));exact BK358.out) hb)
             have n6_:=Aside0.mk (below_step (by repeat (first|(with_reducible first|exact HB.out|apply below_alloc|apply pw_below_drewN|apply below_drew1|refine below_set ?_ GE338.out|refine below_set ?_ GE358.out)|exact HB.out)) hb)
             clear HO_6
             clear HO_9
             clear HO_359001
             clear BK338
             clear BK358
             clear HB
             have HO_6:=n0_
             have HO_9:=n1_
             have HO_359001:=n2_
             have HO382:=n3_
             have BK338:=n4_
             have BK358:=n5_
             have HB:=n6_
             clear n0_ n1_ n2_ n3_ n4_ n5_ n6_
             (try clear hb)
             (try clear hb2)
             (try clear hk)
             (try clear hi)
             (try clear ho0)
             refine hK.out _ _ ⟨(blk_cell BK338.out 0).trans rfl,(blk_cell BK338.out 1).trans rfl⟩ (fun hHeld => ?_)
             clear hK K
             refine norm_ (a':=?_) ?_ ?_
             rotate_left
             ·show Act.put _ (some 76) _ = _
              simp only [Act.put,List.setIfInBounds_toArray,List.set_cons_zero,List.set_cons_succ,i64_w,i32_w]
              rfl
             refine one_ (i:=3) (N:=some 78) #[true,true,true,true,false,false] rfl rfl (by kernel_rfl) (by decide) (fun K hK => ?_)
             refine goes_ Tryd.func20 (by kernel_rfl) rfl #[.agg #[.int .i64 a1_0,.slice A1_1 l1_1.length c1_1]] (by rfl) rfl rfl (by (try simp only [List.map_toArray,List.map_cons,List.map_nil]);first|done|rfl|(simp only [List.length_drop,List.length_take];rfl)) ?_
             with_reducible refine (laws_toNursery.calls kj26 a1_0 _ _ l1_1 t383 t384 _ ?side1 ?side2 A66.out).mono ?_
             (case side1 => repeat (first|exact (Kd.C_below HR1_1.out HB.out)|(with_reducible first|refine Kd.C_alloc ?_ _|refine Kd.C_drewN ?_ _|refine Kd.C_drew ?_)))
             (case side2 => exact HC1_1.out)
             rintro e w75 ⟨v385,rfl,ho0,hb⟩
             refine ⟨_,rfl,?_⟩
             have n0_:=Aside0.mk (Kd.R_elder' (by (with_reducible repeat (first|apply Kd.R_alloc|apply Kd.R_drewN|apply Kd.R_drew));exact HO_6.out) (Kd.R_base ho0) hb)
             have n1_:=Aside0.mk (Kd.R_elder' (by (with_reducible repeat (first|apply Kd.R_alloc|apply Kd.R_drewN|apply Kd.R_drew));exact HO_9.out) (Kd.R_base ho0) hb)
             have n2_:=Aside0.mk (Kd.R_elder' (by (with_reducible repeat (first|apply Kd.R_alloc|apply Kd.R_drewN|apply Kd.R_drew));exact HO_359001.out) (Kd.R_base ho0) hb)
             have n3_:=Aside0.mk (Kd.R_below (by (with_reducible repeat (first|apply Kd.R_alloc|apply Kd.R_drewN|apply Kd.R_drew));exact HO382.out) hb)
             have n4_:=Aside0.mk (Kd.R_lower (Kd.R_new' (Kd.R_new' (Kd.R_new' ho0 (Kd.R_lt (by (with_reducible repeat (first|apply Kd.R_alloc|apply Kd.R_drewN|apply Kd.R_drew));exact HO_6.out))) (Kd.R_lt (by (with_reducible repeat (first|apply Kd.R_alloc|apply Kd.R_drewN|apply Kd.R_drew));exact HO_9.out))) (Kd.R_lt (by (with_reducible repeat (first|apply Kd.R_alloc|apply Kd.R_drewN|apply Kd.R_drew));exact HO_359001.out))) (below_size (by repeat (first|(with_reducible first|exact HB.out|apply below_alloc|apply pw_below_drewN|apply below_drew1|refine below_set ?_ GE338.out|refine below_set ?_ GE358.out)|exact HB.out))))
             have n5_:=Aside0.mk (blk_below (g:=gb338) (o:=.cells #[.int .i64 a1_0,.slice A1_1 l1_1.length c1_1] 25 (0,0)) (by (with_reducible repeat (first|refine blk_drewN ?_ _|refine blk_drew ?_|refine blk_alloc ?_ _));exact BK338.out) hb)
             have n6_:=Aside0.mk (blk_below (g:=gb358) (o:=.cells #[.int .i64 t354,.slice Ao43 t375.length co43] 30 (0,0)) (by (with_reducible repeat (first|refine blk_drewN ?_ _|refine blk_drew ?_|refine blk_alloc ?_ _));exact BK358.out) hb)
             have n7_:=Aside0.mk (below_step (by repeat (first|(with_reducible first|exact HB.out|apply below_alloc|apply pw_below_drewN|apply below_drew1|refine below_set ?_ GE338.out|refine below_set ?_ GE358.out)|exact HB.out)) hb)
             clear HO_6
             clear HO_9
             clear HO_359001
             clear HO382
             clear BK338
             clear BK358
             clear HB
             have HO_6:=n0_
             have HO_9:=n1_
             have HO_359001:=n2_
             have HO382:=n3_
             have HO386:=n4_
             have BK338:=n5_
             have BK358:=n6_
             have HB:=n7_
             clear n0_ n1_ n2_ n3_ n4_ n5_ n6_ n7_
             (try clear hb)
             (try clear hb2)
             (try clear hk)
             (try clear hi)
             (try clear ho0)
             obtain ⟨Ao76,co76,eo76⟩:=Kd.R_slice HO382.out
             (first|subst eo76|(injection eo76 with f1_ f2_ f3_;have f4_:=f1_.symm;have f5_:=f3_.symm;clear f1_ f2_ f3_;subst f4_;subst f5_))
             obtain ⟨Ao77,co77,eo77⟩:=Kd.R_slice HO386.out
             (first|subst eo77|(injection eo77 with f1_ f2_ f3_;have f4_:=f1_.symm;have f5_:=f3_.symm;clear f1_ f2_ f3_;subst f4_;subst f5_))
             refine hK.out _ _ ⟨(blk_cell BK338.out 0).trans rfl,(blk_cell BK338.out 1).trans rfl⟩ (fun hHeld => ?_)
             clear hK K
             refine norm_ (a':=?_) ?_ ?_
             rotate_left
             ·show Act.put _ (some 78) _ = _
              simp only [Act.put,List.setIfInBounds_toArray,List.set_cons_zero,List.set_cons_succ,i64_w,i32_w]
              rfl
             refine one_ (i:=4) (N:=some 79) #[true,true,true,true,true,false] rfl rfl (by kernel_rfl) (by decide) (fun K hK => ?_)
             refine goes_ Tryd.func32 (by kernel_rfl) rfl #[.slice Ao76 t380.length co76,.agg #[.int .i64 t383,.slice Ao77 t384.length co77]] (by rfl) rfl rfl (by (try simp only [List.map_toArray,List.map_cons,List.map_nil]);first|done|rfl|(simp only [List.length_drop,List.length_take];rfl)) ?_
             with_reducible refine (impl_Ages.calls kj26 _ _ t380 t383 _ _ t384 t387 _ ?side1 ?side2 ?side3 ?side4 A67.out).mono ?_
             (case side1 => repeat (first|exact (Kd.R_reads' HO382.out).2.2|(with_reducible first|refine Kd.C_alloc ?_ _|refine Kd.C_drewN ?_ _|refine Kd.C_drew ?_)))
             (case side2 => exact (Kd.R_reads' HO382.out).2.1)
             (case side3 => repeat (first|exact (Kd.R_reads' HO386.out).2.2|(with_reducible first|refine Kd.C_alloc ?_ _|refine Kd.C_drewN ?_ _|refine Kd.C_drew ?_)))
             (case side4 => exact (Kd.R_reads' HO386.out).2.1)
             rintro e w78 ⟨v388,rfl,ho0,hb⟩
             refine ⟨_,rfl,?_⟩
             have n0_:=Aside0.mk (Kd.R_elder' (by (with_reducible repeat (first|apply Kd.R_alloc|apply Kd.R_drewN|apply Kd.R_drew));exact HO_6.out) (Kd.R_base ho0) hb)
             have n1_:=Aside0.mk (Kd.R_elder' (by (with_reducible repeat (first|apply Kd.R_alloc|apply Kd.R_drewN|apply Kd.R_drew));exact HO_9.out) (Kd.R_base ho0) hb)
             have n2_:=Aside0.mk (Kd.R_elder' (by (with_reducible repeat (first|apply Kd.R_alloc|apply Kd.R_drewN|apply Kd.R_drew));exact HO_359001.out) (Kd.R_base ho0) hb)
             have n3_:=Aside0.mk (Kd.R_below (by (with_reducible repeat (first|apply Kd.R_alloc|apply Kd.R_drewN|apply Kd.R_drew));exact HO382.out) hb)
             have n4_:=Aside0.mk (Kd.R_elder' (by (with_reducible repeat (first|apply Kd.R_alloc|apply Kd.R_drewN|apply Kd.R_drew));exact HO386.out) (Kd.R_base ho0) hb)
             have n5_:=Aside0.mk (Kd.R_lower (Kd.R_new' (Kd.R_new' (Kd.R_new' (Kd.R_new' ho0 (Kd.R_lt (by (with_reducible repeat (first|apply Kd.R_alloc|apply Kd.R_drewN|apply Kd.R_drew));exact HO_6.out))) (Kd.R_lt (by (with_reducible repeat (first|apply Kd.R_alloc|apply Kd.R_drewN|apply Kd.R_drew));exact HO_9.out))) (Kd.R_lt (by (with_reducible repeat (first|apply Kd.R_alloc|apply Kd.R_drewN|apply Kd.R_drew));exact HO_359001.out))) (Kd.R_lt (by (with_reducible repeat (first|apply Kd.R_alloc|apply Kd.R_drewN|apply Kd.R_drew));exact HO386.out))) (below_size (by repeat (first|(with_reducible first|exact HB.out|apply below_alloc|apply pw_below_drewN|apply below_drew1|refine below_set ?_ GE338.out|refine below_set ?_ GE358.out)|exact HB.out))))
             have n6_:=Aside0.mk (blk_below (g:=gb338) (o:=.cells #[.int .i64 a1_0,.slice A1_1 l1_1.length c1_1] 25 (0,0)) (by (with_reducible repeat (first|refine blk_drewN ?_ _|refine blk_drew ?_|refine blk_alloc ?_ _));exact BK338.out) hb)
             have n7_:=Aside0.mk (blk_below (g:=gb358) (o:=.cells #[.int .i64 t354,.slice Ao43 t375.length co43] 30 (0,0)) (by (with_reducible repeat (first|refine blk_drewN ?_ _|refine blk_drew ?_|refine blk_alloc ?_ _));exact BK358.out) hb)
             have n8_:=Aside0.mk (below_step (by repeat (first|(with_reducible first|exact HB.out|apply below_alloc|apply pw_below_drewN|apply below_drew1|refine below_set ?_ GE338.out|refine below_set ?_ GE358.out)|exact HB.out)) hb)
             clear HO_6
             clear HO_9
             clear HO_359001
             clear HO382
             clear HO386
             clear BK338
             clear BK358
             clear HB
             have HO_6:=n0_
             have HO_9:=n1_
             have HO_359001:=n2_
             have HO382:=n3_
             have HO386:=n4_
             have HO389:=n5_
             have BK338:=n6_
             have BK358:=n7_
             have HB:=n8_
             clear n0_ n1_ n2_ n3_ n4_ n5_ n6_ n7_ n8_
             (try clear hb)
             (try clear hb2)
             (try clear hk)
             (try clear hi)
             (try clear ho0)
             refine hK.out _ _ ⟨(blk_cell BK338.out 0).trans rfl,(blk_cell BK338.out 1).trans rfl⟩ (fun hHeld => ?_)
             clear hK K
             refine norm_ (a':=?_) ?_ ?_
             rotate_left
             ·show Act.put _ (some 79) _ = _
              simp only [Act.put,List.setIfInBounds_toArray,List.set_cons_zero,List.set_cons_succ,i64_w,i32_w]
              rfl
             refine pure_ (i:=5) (N:=some 13) (v:=?_) (a':=?_) #[true,true,true,true,true,true] rfl rfl (by kernel_rfl) (fun _ _ _ h => h) (Or.inl ⟨by rfl,?_⟩) ?_ ?_
             rotate_left
             ·intro w'
              go_simp
              with_reducible rfl
             rotate_left
             ·simp only [Act.put,List.setIfInBounds_toArray,List.set_cons_zero,List.set_cons_succ,i64_w,i32_w]
              rfl
             refine done_ (by kernel_rfl) ?_
             obtain ⟨Ao79,co79,eo79⟩:=Kd.R_slice HO389.out
             subst eo79
             try go_wp2_with (first|((with_reducible refine gate_callee (f:=26) rfl ?_);refine goesL_ (some 82) rfl rfl Tryd.func26 (by kernel_rfl) rfl #[.slice Ao79 t387.length co79,.slice Ao47 t348.length co47] rfl (by (try simp only [List.map_toArray,List.map_cons,List.map_nil]);first|done|rfl|(simp only [List.length_drop,List.length_take];rfl)) ?_;(with_reducible refine (laws_eqInt64S.calls kj26 _ _ t387 _ _ t348 true _ ?side1 ?side2 ?side3 ?side4 A68.out).mono ?_);(case side1 => repeat (first|exact (Kd.R_reads' HO389.out).2.2|(with_reducible first|refine Kd.C_alloc ?_ _|refine Kd.C_drewN ?_ _|refine Kd.C_drew ?_)));(case side2 => exact (Kd.R_reads' HO389.out).2.1);(case side3 => repeat (first|exact (Kd.R_reads' HO_6.out).2.2|(with_reducible first|refine Kd.C_alloc ?_ _|refine Kd.C_drewN ?_ _|refine Kd.C_drew ?_)));(case side4 => exact (Kd.R_reads' HO_6.out).2.1);rintro e w' ⟨rfl,⟨nd,rfl⟩⟩;refine ⟨_,rfl,?_⟩)|((with_reducible refine gate_callee (f:=30) rfl ?_);refine goesL_ (some 86) rfl rfl Tryd.func30 (by kernel_rfl) rfl #[.slice Ao46 t378.length co46,.int .i64 1] rfl (by (try simp only [List.map_toArray,List.map_cons,List.map_nil]);first|done|(rw [show t378.length = t359.length from (Kd.R_reads' HO_9.out).1.symm] <;> rfl)|rfl|(simp only [List.length_drop,List.length_take];rfl)) ?_;(with_reducible refine (laws_heldInt64S.calls kj26 _ _ t378 1 t391 _ ?side1 ?side2 A70.out).mono ?_);(case side1 => repeat (first|exact (Kd.R_reads' HO_9.out).2.2|(with_reducible first|refine Kd.C_alloc ?_ _|refine Kd.C_drewN ?_ _|refine Kd.C_drew ?_)));(case side2 => rw [show t378.length = t359.length from (Kd.R_reads' HO_9.out).1.symm];exact (Kd.R_reads' HO_9.out).2.1);rintro e w' ⟨rfl,⟨nd,rfl⟩⟩;refine ⟨_,rfl,?_⟩))
             go_ret
             exact ⟨by first|rfl|(simp [errW_none,errW_some] <;> rfl)|(simp [*,errW_none,errW_some] <;> rfl),by repeat (first|(with_reducible first|exact HB.out|apply below_alloc|apply pw_below_drewN|apply below_drew1|refine below_set ?_ GE338.out|refine below_set ?_ GE358.out)|exact HB.out)⟩
            ·rw [if_neg c71] at H
             have c71b0 : decide (t391 < 0) = false:=decide_eq_false c71
             clear c71
             by_cases c80 : t391 = t377
             ·rw [if_pos c80] at H
              have c80b0 : (t391 == t377) = true:=beq_iff_eq.mpr c80
              have c80b1 : (t391 != t377) = false:=bne_eq_false_iff_eq.mpr c80
              clear c80
              obtain rfl:=Option.some.inj H
              try go_wp2_with (first|((with_reducible refine gate_callee (f:=29) rfl ?_);refine goesL_ (some 66) rfl rfl Tryd.func29 (by kernel_rfl) rfl #[.slice Ao46 t359.length co46,.int .i64 1] rfl (by (try simp only [List.map_toArray,List.map_cons,List.map_nil]);first|done|rfl|(simp only [List.length_drop,List.length_take];rfl)) ?_;(with_reducible refine (laws_markInt64S.calls kj26 (fun k_ => some k_ = (.slice Ao46 t359.length co46 : Value).ownBlock) (.slice Ao46 t359.length co46) t359 1 t377 t378 w _ ?side1 ?side2 A60.out).mono ?_);(case side1 => repeat (first|(with_reducible first|exact HB.out|apply below_alloc|apply pw_below_drewN|apply below_drew1|refine below_set ?_ GE338.out|refine below_set ?_ GE358.out)|exact HB.out));(case side2 => exact Kd.R_tight rfl HO_9.out);rintro e w81 ⟨rfl,hy0,hb,hkp⟩;refine ⟨_,rfl,?_⟩;have n0_:=Aside0.mk (Kd.R_mono (ok':=fun k_ => some k_≠(.slice Ao46 t359.length co46 : Value).ownBlock∧some k_≠(.slice Ao43 t375.length co43 : Value).ownBlock) (Kd.R_keptB (HO_6.out) hkp (fun k_ hk_ hs_ => by first|exact hk_.1 hs_|exact hk_.1 hs_|exact hk_.2.1 hs_|exact hk_.2 hs_|exact hk_.2.2.1 hs_|exact hk_.2.2 hs_|exact hk_.2.2.2 hs_)) (fun k_ hk_ => by first|exact ⟨hk_.1.1,hk_.1.2⟩|(simp only [and_assoc] at hk_;exact ⟨hk_.1,hk_.2.1⟩)));have n1_:=Aside0.mk (Kd.R_reok rfl hy0 (fun k_ e_ => HO_9.out.1 k_ e_));have n2_:=Aside0.mk (Kd.R_mono (ok':=fun k_ => some k_≠(.slice Ao47 t348.length co47 : Value).ownBlock∧some k_≠(.slice Ao46 t359.length co46 : Value).ownBlock) (Kd.R_keptB (HO_359001.out) hkp (fun k_ hk_ hs_ => (hk_.2) hs_)) (fun k_ hk_ => by first|exact ⟨hk_.1.1,hk_.1.2⟩|(simp only [and_assoc] at hk_;exact ⟨hk_.1,hk_.2.1⟩)));have n3_:=Aside0.mk (blk_kept (by (with_reducible repeat (first|refine blk_drewN ?_ _|refine blk_drew ?_|refine blk_alloc ?_ _));exact BK338.out) hkp (fun hs_ => (fun e_ => (Kd.R_ne HO_9.out BK338.out (by decide)) e_) hs_));have n4_:=Aside0.mk (blk_kept (by (with_reducible repeat (first|refine blk_drewN ?_ _|refine blk_drew ?_|refine blk_alloc ?_ _));exact BK358.out) hkp (fun hs_ => (fun e_ => (Kd.R_ne HO_9.out BK358.out (by decide)) e_) hs_));have n5_:=Aside0.mk (hb);clear HO_6 HO_9 HO_359001 BK338 BK358 HB;have HO_6:=n0_;have HO_9:=n1_;have HO_359001:=n2_;have BK338:=n3_;have BK358:=n4_;have HB:=n5_;clear n0_ n1_ n2_ n3_ n4_ n5_;(try clear hb);(try clear hkp);(try clear hy0))|((with_reducible refine gate_callee (f:=30) rfl ?_);refine goesL_ (some 69) rfl rfl Tryd.func30 (by kernel_rfl) rfl #[.slice Ao46 t378.length co46,.int .i64 1] rfl (by (try simp only [List.map_toArray,List.map_cons,List.map_nil]);first|done|(rw [show t378.length = t359.length from (Kd.R_reads' HO_9.out).1.symm] <;> rfl)|rfl|(simp only [List.length_drop,List.length_take];rfl)) ?_;(with_reducible refine (laws_heldInt64S.calls kj26 _ _ t378 1 t379 _ ?side1 ?side2 A61.out).mono ?_);(case side1 => repeat (first|exact (Kd.R_reads' HO_9.out).2.2|(with_reducible first|refine Kd.C_alloc ?_ _|refine Kd.C_drewN ?_ _|refine Kd.C_drew ?_)));(case side2 => rw [show t378.length = t359.length from (Kd.R_reads' HO_9.out).1.symm];exact (Kd.R_reads' HO_9.out).2.1);rintro e w' ⟨rfl,⟨nd,rfl⟩⟩;refine ⟨_,rfl,?_⟩))
              (try (rw [drewN_self w81];generalize hq_ : World.drewN w81 _ = w81;have n0_ : Aside0 (Kd.R (Kd.int .i64) 2 w81 w.heap.size (fun k_ => some k_≠(.slice Ao47 t348.length co47 : Value).ownBlock∧some k_≠(.slice Ao46 t359.length co46 : Value).ownBlock) (.slice Ao43 t375.length co43) t375):=⟨by rw [← hq_];exact (by (with_reducible repeat (first|apply Kd.R_alloc|apply Kd.R_drewN|apply Kd.R_drew));exact HO_359001.out)⟩;have n1_ : Aside0 (Kd.R (Kd.int .i64) 2 w81 w.heap.size (fun k_ => some k_≠(.slice Ao43 t375.length co43 : Value).ownBlock∧some k_≠(.slice Ao46 t359.length co46 : Value).ownBlock) (.slice Ao47 t348.length co47) t348):=⟨by rw [← hq_];exact (by (with_reducible repeat (first|apply Kd.R_alloc|apply Kd.R_drewN|apply Kd.R_drew));exact Kd.R_mono HO_6.out (fun _ hk => ⟨hk.2,hk.1⟩))⟩;have n2_ : Aside0 (Kd.R (Kd.int .i64) 2 w81 w.heap.size (fun k_ => some k_≠(.slice Ao43 t375.length co43 : Value).ownBlock∧some k_≠(.slice Ao47 t348.length co47 : Value).ownBlock) (.slice Ao46 t359.length co46) t378):=⟨by rw [← hq_];exact (by (with_reducible repeat (first|apply Kd.R_alloc|apply Kd.R_drewN|apply Kd.R_drew));exact Kd.R_mono HO_9.out (fun _ hk => ⟨hk.2,hk.1⟩))⟩;have n3_ : Aside0 (w81.heap[gb338]? = some (.cells #[.int .i64 a1_0,.slice A1_1 l1_1.length c1_1] 25 (0,0))):=⟨by rw [← hq_];exact (by (with_reducible repeat (first|refine blk_drewN ?_ _|refine blk_drew ?_|refine blk_alloc ?_ _));exact BK338.out)⟩;have n4_ : Aside0 (w81.heap[gb358]? = some (.cells #[.int .i64 t354,.slice Ao43 t375.length co43] 30 (0,0))):=⟨by rw [← hq_];exact (by (with_reducible repeat (first|refine blk_drewN ?_ _|refine blk_drew ?_|refine blk_alloc ?_ _));exact BK358.out)⟩;have n5_ : Aside0 (Below w.heap.size w w81):=⟨by rw [← hq_];exact (by repeat (first|(with_reducible first|exact HB.out|apply below_alloc|apply pw_below_drewN|apply below_drew1|refine below_set ?_ GE338.out|refine below_set ?_ GE358.out)|exact HB.out))⟩;clear HO_359001 HO_6 HO_9 BK338 BK358 HB hq_;have HO_359001:=n0_;have HO_6:=n1_;have HO_9:=n2_;have BK338:=n3_;have BK358:=n4_;have HB:=n5_;clear n0_ n1_ n2_ n3_ n4_ n5_))
              have n0_:=Aside0.mk (Kd.R_drew HO_6.out)
              have n1_:=Aside0.mk (Kd.R_drew HO_9.out)
              have n2_:=Aside0.mk (Kd.R_drew HO_359001.out)
              have n3_:=Aside0.mk (blk_drew BK338.out)
              have n4_:=Aside0.mk (blk_drew BK358.out)
              have n5_:=Aside0.mk (below_drew1 HB.out)
              clear HO_6
              clear HO_9
              clear HO_359001
              clear BK338
              clear BK358
              clear HB
              have HO_6:=n0_
              have HO_9:=n1_
              have HO_359001:=n2_
              have BK338:=n3_
              have BK358:=n4_
              have HB:=n5_
              clear n0_ n1_ n2_ n3_ n4_ n5_
              refine start_ (n:=6) (S:=fun w' => w'.cell? ⟨gb338,0,none⟩ = some (.int .i64 a1_0)∧w'.cell? ⟨gb338,1,none⟩ = some (.slice A1_1 l1_1.length c1_1)) (ds:=[]) #[false,false,false,false,false,false] (by kernel_rfl) rfl rfl ⟨(blk_cell BK338.out 0).trans rfl,(blk_cell BK338.out 1).trans rfl⟩ (fun hHeld => ?_)
              generalize w81.drew = w82 at HO_6 HO_9 HO_359001 BK338 BK358 HB hHeld ⊢
              refine pure_ (i:=0) (N:=some 75) (v:=?_) (a':=?_) #[true,false,false,false,false,false] rfl rfl (by kernel_rfl) (fun _ _ _ h => h) (Or.inl ⟨by rfl,?_⟩) ?_ ?_
              rotate_left
              ·intro w'
               go_simp
               with_reducible rfl
              rotate_left
              ·simp only [Act.put,List.setIfInBounds_toArray,List.set_cons_zero,List.set_cons_succ,i64_w,i32_w]
               rfl
              refine take_ (i:=2) (N:=some 77) (v:=?_) (a':=?_) #[true,false,true,false,false,false] rfl rfl (by kernel_rfl) (fun _ _ _ h => h) (Or.inl ⟨by rfl,?_⟩) hHeld ?_ ?_
              rotate_left
              ·rintro w' ⟨s0,s1⟩
               go_simp
               with_reducible rfl
              rotate_left
              ·simp only [Act.put,List.setIfInBounds_toArray,List.set_cons_zero,List.set_cons_succ,i64_w,i32_w]
               rfl
              refine one_ (i:=1) (N:=some 76) #[true,true,true,false,false,false] rfl rfl (by kernel_rfl) (by decide) (fun K hK => ?_)
              refine goes_ Tryd.func19 (by kernel_rfl) rfl #[.slice A0 l0.length c0] (by rfl) rfl rfl (by (try simp only [List.map_toArray,List.map_cons,List.map_nil]);first|done|rfl|(simp only [List.length_drop,List.length_take];rfl)) ?_
              with_reducible refine (laws_toStringS.calls kj26 _ _ l0 t380 _ ?side1 ?side2 A65.out).mono ?_
              (case side1 => repeat (first|exact (Kd.C_below HR0.out HB.out)|(with_reducible first|refine Kd.C_alloc ?_ _|refine Kd.C_drewN ?_ _|refine Kd.C_drew ?_)))
              (case side2 => exact HC0.out)
              rintro e w83 ⟨v381,rfl,ho0,hb⟩
              refine ⟨_,rfl,?_⟩
              have n0_:=Aside0.mk (Kd.R_below (by (with_reducible repeat (first|apply Kd.R_alloc|apply Kd.R_drewN|apply Kd.R_drew));exact HO_6.out) hb)
              have n1_:=Aside0.mk (Kd.R_below (by (with_reducible repeat (first|apply Kd.R_alloc|apply Kd.R_drewN|apply Kd.R_drew));exact HO_9.out) hb)
              have n2_:=Aside0.mk (Kd.R_below (by (with_reducible repeat (first|apply Kd.R_alloc|apply Kd.R_drewN|apply Kd.R_drew));exact HO_359001.out) hb)
              have n3_:=Aside0.mk (Kd.R_lower ho0 (below_size (by repeat (first|(with_reducible first|exact HB.out|apply below_alloc|apply pw_below_drewN|apply below_drew1|refine below_set ?_ GE338.out|refine below_set ?_ GE358.out)|exact HB.out))))
              have n4_:=Aside0.mk (blk_below (g:=gb338) (o:=.cells #[.int .i64 a1_0,.slice A1_1 l1_1.length c1_1] 25 (0,0)) (by (with_reducible repeat (first|refine blk_drewN ?_ _|refine blk_drew ?_|refine blk_alloc ?_ _));exact BK338.out) hb)
              have n5_:=Aside0.mk (blk_below (g:=gb358) (o:=.cells #[.int .i64 t354,.slice Ao43 t375.length co43] 30 (0,0)) (by (with_reducible repeat (first|refine blk_drewN ?_ _|refine blk_drew ?_|refine blk_alloc ?_ _));exact BK358.out) hb)
              have n6_:=Aside0.mk (below_step (by repeat (first|(with_reducible first|exact HB.out|apply below_alloc|apply pw_below_drewN|apply below_drew1|refine below_set ?_ GE338.out|refine below_set ?_ GE358.out)|exact HB.out)) hb)
              clear HO_6
              clear HO_9
              clear HO_359001
              clear BK338
              clear BK358
              clear HB
              have HO_6:=n0_
              have HO_9:=n1_
              have HO_359001:=n2_
              have HO382:=n3_
              have BK338:=n4_
              have BK358:=n5_
              have HB:=n6_
              clear n0_ n1_ n2_ n3_ n4_ n5_ n6_
              (try clear hb)
              (try clear hb2)
              (try clear hk)
              (try clear hi)
              (try clear ho0)
              refine hK.out _ _ ⟨(blk_cell BK338.out 0).trans rfl,(blk_cell BK338.out 1).trans rfl⟩ (fun hHeld => ?_)
              clear hK K
              refine norm_ (a':=?_) ?_ ?_
              rotate_left
              ·show Act.put _ (some 76) _ = _
               simp only [Act.put,List.setIfInBounds_toArray,List.set_cons_zero,List.set_cons_succ,i64_w,i32_w]
               rfl
              refine one_ (i:=3) (N:=some 78) #[true,true,true,true,false,false] rfl rfl (by kernel_rfl) (by decide) (fun K hK => ?_)
              refine goes_ Tryd.func20 (by kernel_rfl) rfl #[.agg #[.int .i64 a1_0,.slice A1_1 l1_1.length c1_1]] (by rfl) rfl rfl (by (try simp only [List.map_toArray,List.map_cons,List.map_nil]);first|done|rfl|(simp only [List.length_drop,List.length_take];rfl)) ?_
              with_reducible refine (laws_toNursery.calls kj26 a1_0 _ _ l1_1 t383 t384 _ ?side1 ?side2 A66.out).mono ?_
              (case side1 => repeat (first|exact (Kd.C_below HR1_1.out HB.out)|(with_reducible first|refine Kd.C_alloc ?_ _|refine Kd.C_drewN ?_ _|refine Kd.C_drew ?_)))
              (case side2 => exact HC1_1.out)
              rintro e w84 ⟨v385,rfl,ho0,hb⟩
              refine ⟨_,rfl,?_⟩
              have n0_:=Aside0.mk (Kd.R_elder' (by (with_reducible repeat (first|apply Kd.R_alloc|apply Kd.R_drewN|apply Kd.R_drew));exact HO_6.out) (Kd.R_base ho0) hb)
              have n1_:=Aside0.mk (Kd.R_elder' (by (with_reducible repeat (first|apply Kd.R_alloc|apply Kd.R_drewN|apply Kd.R_drew));exact HO_9.out) (Kd.R_base ho0) hb)
              have n2_:=Aside0.mk (Kd.R_elder' (by (with_reducible repeat (first|apply Kd.R_alloc|apply Kd.R_drewN|apply Kd.R_drew));exact HO_359001.out) (Kd.R_base ho0) hb)
              have n3_:=Aside0.mk (Kd.R_below (by (with_reducible repeat (first|apply Kd.R_alloc|apply Kd.R_drewN|apply Kd.R_drew));exact HO382.out) hb)
              have n4_:=Aside0.mk (Kd.R_lower (Kd.R_new' (Kd.R_new' (Kd.R_new' ho0 (Kd.R_lt (by (with_reducible repeat (first|apply Kd.R_alloc|apply Kd.R_drewN|apply Kd.R_drew));exact HO_6.out))) (Kd.R_lt (by (with_reducible repeat (first|apply Kd.R_alloc|apply Kd.R_drewN|apply Kd.R_drew));exact HO_9.out))) (Kd.R_lt (by (with_reducible repeat (first|apply Kd.R_alloc|apply Kd.R_drewN|apply Kd.R_drew));exact HO_359001.out))) (below_size (by repeat (first|(with_reducible first|exact HB.out|apply below_alloc|apply pw_below_drewN|apply below_drew1|refine below_set ?_ GE338.out|refine below_set ?_ GE358.out)|exact HB.out))))
              have n5_:=Aside0.mk (blk_below (g:=gb338) (o:=.cells #[.int .i64 a1_0,.slice A1_1 l1_1.length c1_1] 25 (0,0)) (by (with_reducible repeat (first|refine blk_drewN ?_ _|refine blk_drew ?_|refine blk_alloc ?_ _));exact BK338.out) hb)
              have n6_:=Aside0.mk (blk_below (g:=gb358) (o:=.cells #[.int .i64 t354,.slice Ao43 t375.length co43] 30 (0,0)) (by (with_reducible repeat (first|refine blk_drewN ?_ _|refine blk_drew ?_|refine blk_alloc ?_ _));exact BK358.out) hb)
              have n7_:=Aside0.mk (below_step (by repeat (first|(with_reducible first|exact HB.out|apply below_alloc|apply pw_below_drewN|apply below_drew1|refine below_set ?_ GE338.out|refine below_set ?_ GE358.out)|exact HB.out)) hb)
              clear HO_6
              clear HO_9
              clear HO_359001
              clear HO382
              clear BK338
              clear BK358
              clear HB
              have HO_6:=n0_
              have HO_9:=n1_
              have HO_359001:=n2_
              have HO382:=n3_
              have HO386:=n4_
              have BK338:=n5_
              have BK358:=n6_
              have HB:=n7_
              clear n0_ n1_ n2_ n3_ n4_ n5_ n6_ n7_
              (try clear hb)
              (try clear hb2)
              (try clear hk)
              (try clear hi)
              (try clear ho0)
              obtain ⟨Ao85,co85,eo85⟩:=Kd.R_slice HO382.out
              (first|subst eo85|(injection eo85 with f1_ f2_ f3_;have f4_:=f1_.symm;have f5_:=f3_.symm;clear f1_ f2_ f3_;subst f4_;subst f5_))
              obtain ⟨Ao86,co86,eo86⟩:=Kd.R_slice HO386.out
              (first|subst eo86|(injection eo86 with f1_ f2_ f3_;have f4_:=f1_.symm;have f5_:=f3_.symm;clear f1_ f2_ f3_;subst f4_;subst f5_))
              refine hK.out _ _ ⟨(blk_cell BK338.out 0).trans rfl,(blk_cell BK338.out 1).trans rfl⟩ (fun hHeld => ?_)
              clear hK K
              refine norm_ (a':=?_) ?_ ?_
              rotate_left
              ·show Act.put _ (some 78) _ = _
               simp only [Act.put,List.setIfInBounds_toArray,List.set_cons_zero,List.set_cons_succ,i64_w,i32_w]
               rfl
              refine one_ (i:=4) (N:=some 79) #[true,true,true,true,true,false] rfl rfl (by kernel_rfl) (by decide) (fun K hK => ?_)
              refine goes_ Tryd.func32 (by kernel_rfl) rfl #[.slice Ao85 t380.length co85,.agg #[.int .i64 t383,.slice Ao86 t384.length co86]] (by rfl) rfl rfl (by (try simp only [List.map_toArray,List.map_cons,List.map_nil]);first|done|rfl|(simp only [List.length_drop,List.length_take];rfl)) ?_
              with_reducible refine (impl_Ages.calls kj26 _ _ t380 t383 _ _ t384 t387 _ ?side1 ?side2 ?side3 ?side4 A67.out).mono ?_
              (case side1 => repeat (first|exact (Kd.R_reads' HO382.out).2.2|(with_reducible first|refine Kd.C_alloc ?_ _|refine Kd.C_drewN ?_ _|refine Kd.C_drew ?_)))
              (case side2 => exact (Kd.R_reads' HO382.out).2.1)
              (case side3 => repeat (first|exact (Kd.R_reads' HO386.out).2.2|(with_reducible first|refine Kd.C_alloc ?_ _|refine Kd.C_drewN ?_ _|refine Kd.C_drew ?_)))
              (case side4 => exact (Kd.R_reads' HO386.out).2.1)
              rintro e w87 ⟨v388,rfl,ho0,hb⟩
              refine ⟨_,rfl,?_⟩
              have n0_:=Aside0.mk (Kd.R_elder' (by (with_reducible repeat (first|apply Kd.R_alloc|apply Kd.R_drewN|apply Kd.R_drew));exact HO_6.out) (Kd.R_base ho0) hb)
              have n1_:=Aside0.mk (Kd.R_elder' (by (with_reducible repeat (first|apply Kd.R_alloc|apply Kd.R_drewN|apply Kd.R_drew));exact HO_9.out) (Kd.R_base ho0) hb)
              have n2_:=Aside0.mk (Kd.R_elder' (by (with_reducible repeat (first|apply Kd.R_alloc|apply Kd.R_drewN|apply Kd.R_drew));exact HO_359001.out) (Kd.R_base ho0) hb)
              have n3_:=Aside0.mk (Kd.R_below (by (with_reducible repeat (first|apply Kd.R_alloc|apply Kd.R_drewN|apply Kd.R_drew));exact HO382.out) hb)
              have n4_:=Aside0.mk (Kd.R_elder' (by (with_reducible repeat (first|apply Kd.R_alloc|apply Kd.R_drewN|apply Kd.R_drew));exact HO386.out) (Kd.R_base ho0) hb)
              have n5_:=Aside0.mk (Kd.R_lower (Kd.R_new' (Kd.R_new' (Kd.R_new' (Kd.R_new' ho0 (Kd.R_lt (by (with_reducible repeat (first|apply Kd.R_alloc|apply Kd.R_drewN|apply Kd.R_drew));exact HO_6.out))) (Kd.R_lt (by (with_reducible repeat (first|apply Kd.R_alloc|apply Kd.R_drewN|apply Kd.R_drew));exact HO_9.out))) (Kd.R_lt (by (with_reducible repeat (first|apply Kd.R_alloc|apply Kd.R_drewN|apply Kd.R_drew));exact HO_359001.out))) (Kd.R_lt (by (with_reducible repeat (first|apply Kd.R_alloc|apply Kd.R_drewN|apply Kd.R_drew));exact HO386.out))) (below_size (by repeat (first|(with_reducible first|exact HB.out|apply below_alloc|apply pw_below_drewN|apply below_drew1|refine below_set ?_ GE338.out|refine below_set ?_ GE358.out)|exact HB.out))))
              have n6_:=Aside0.mk (blk_below (g:=gb338) (o:=.cells #[.int .i64 a1_0,.slice A1_1 l1_1.length c1_1] 25 (0,0)) (by (with_reducible repeat (first|refine blk_drewN ?_ _|refine blk_drew ?_|refine blk_alloc ?_ _));exact BK338.out) hb)
              have n7_:=Aside0.mk (blk_below (g:=gb358) (o:=.cells #[.int .i64 t354,.slice Ao43 t375.length co43] 30 (0,0)) (by (with_reducible repeat (first|refine blk_drewN ?_ _|refine blk_drew ?_|refine blk_alloc ?_ _));exact BK358.out) hb)
              have n8_:=Aside0.mk (below_step (by repeat (first|(with_reducible first|exact HB.out|apply below_alloc|apply pw_below_drewN|apply below_drew1|refine below_set ?_ GE338.out|refine below_set ?_ GE358.out)|exact HB.out)) hb)
              clear HO_6
              clear HO_9
              clear HO_359001
              clear HO382
              clear HO386
              clear BK338
              clear BK358
              clear HB
              have HO_6:=n0_
              have HO_9:=n1_
              have HO_359001:=n2_
              have HO382:=n3_
              have HO386:=n4_
              have HO389:=n5_
              have BK338:=n6_
              have BK358:=n7_
              have HB:=n8_
              clear n0_ n1_ n2_ n3_ n4_ n5_ n6_ n7_ n8_
              (try clear hb)
              (try clear hb2)
              (try clear hk)
              (try clear hi)
              (try clear ho0)
              refine hK.out _ _ ⟨(blk_cell BK338.out 0).trans rfl,(blk_cell BK338.out 1).trans rfl⟩ (fun hHeld => ?_)
              clear hK K
              refine norm_ (a':=?_) ?_ ?_
              rotate_left
              ·show Act.put _ (some 79) _ = _
               simp only [Act.put,List.setIfInBounds_toArray,List.set_cons_zero,List.set_cons_succ,i64_w,i32_w]
               rfl
              refine pure_ (i:=5) (N:=some 13) (v:=?_) (a':=?_) #[true,true,true,true,true,true] rfl rfl (by kernel_rfl) (fun _ _ _ h => h) (Or.inl ⟨by rfl,?_⟩) ?_ ?_
              rotate_left
              ·intro w'
               go_simp
               with_reducible rfl
              rotate_left
              ·simp only [Act.put,List.setIfInBounds_toArray,List.set_cons_zero,List.set_cons_succ,i64_w,i32_w]
               rfl
              refine done_ (by kernel_rfl) ?_
              obtain ⟨Ao88,co88,eo88⟩:=Kd.R_slice HO389.out
              subst eo88
              try go_wp2_with (first|((with_reducible refine gate_callee (f:=26) rfl ?_);refine goesL_ (some 82) rfl rfl Tryd.func26 (by kernel_rfl) rfl #[.slice Ao88 t387.length co88,.slice Ao47 t348.length co47] rfl (by (try simp only [List.map_toArray,List.map_cons,List.map_nil]);first|done|rfl|(simp only [List.length_drop,List.length_take];rfl)) ?_;(with_reducible refine (laws_eqInt64S.calls kj26 _ _ t387 _ _ t348 true _ ?side1 ?side2 ?side3 ?side4 A68.out).mono ?_);(case side1 => repeat (first|exact (Kd.R_reads' HO389.out).2.2|(with_reducible first|refine Kd.C_alloc ?_ _|refine Kd.C_drewN ?_ _|refine Kd.C_drew ?_)));(case side2 => exact (Kd.R_reads' HO389.out).2.1);(case side3 => repeat (first|exact (Kd.R_reads' HO_6.out).2.2|(with_reducible first|refine Kd.C_alloc ?_ _|refine Kd.C_drewN ?_ _|refine Kd.C_drew ?_)));(case side4 => exact (Kd.R_reads' HO_6.out).2.1);rintro e w' ⟨rfl,⟨nd,rfl⟩⟩;refine ⟨_,rfl,?_⟩)|((with_reducible refine gate_callee (f:=30) rfl ?_);refine goesL_ (some 86) rfl rfl Tryd.func30 (by kernel_rfl) rfl #[.slice Ao46 t378.length co46,.int .i64 1] rfl (by (try simp only [List.map_toArray,List.map_cons,List.map_nil]);first|done|(rw [show t378.length = t359.length from (Kd.R_reads' HO_9.out).1.symm] <;> rfl)|rfl|(simp only [List.length_drop,List.length_take];rfl)) ?_;(with_reducible refine (laws_heldInt64S.calls kj26 _ _ t378 1 t391 _ ?side1 ?side2 A70.out).mono ?_);(case side1 => repeat (first|exact (Kd.R_reads' HO_9.out).2.2|(with_reducible first|refine Kd.C_alloc ?_ _|refine Kd.C_drewN ?_ _|refine Kd.C_drew ?_)));(case side2 => rw [show t378.length = t359.length from (Kd.R_reads' HO_9.out).1.symm];exact (Kd.R_reads' HO_9.out).2.1);rintro e w' ⟨rfl,⟨nd,rfl⟩⟩;refine ⟨_,rfl,?_⟩))
              go_ret
              exact ⟨by first|rfl|(simp [errW_none,errW_some] <;> rfl)|(simp [*,errW_none,errW_some] <;> rfl),by repeat (first|(with_reducible first|exact HB.out|apply below_alloc|apply pw_below_drewN|apply below_drew1|refine below_set ?_ GE338.out|refine below_set ?_ GE358.out)|exact HB.out)⟩
             ·rw [if_neg c80] at H
              have c80b0 : (t391 == t377) = false:=beq_eq_false_iff_ne.mpr c80
              have c80b1 : (t391 != t377) = true:=bne_iff_ne.mpr c80
              obtain rfl:=Option.some.inj H
              try go_wp2_with (first|((with_reducible refine gate_callee (f:=29) rfl ?_);refine goesL_ (some 66) rfl rfl Tryd.func29 (by kernel_rfl) rfl #[.slice Ao46 t359.length co46,.int .i64 1] rfl (by (try simp only [List.map_toArray,List.map_cons,List.map_nil]);first|done|rfl|(simp only [List.length_drop,List.length_take];rfl)) ?_;(with_reducible refine (laws_markInt64S.calls kj26 (fun k_ => some k_ = (.slice Ao46 t359.length co46 : Value).ownBlock) (.slice Ao46 t359.length co46) t359 1 t377 t378 w _ ?side1 ?side2 A60.out).mono ?_);(case side1 => repeat (first|(with_reducible first|exact HB.out|apply below_alloc|apply pw_below_drewN|apply below_drew1|refine below_set ?_ GE338.out|refine below_set ?_ GE358.out)|exact HB.out));(case side2 => exact Kd.R_tight rfl HO_9.out);rintro e w89 ⟨rfl,hy0,hb,hkp⟩;refine ⟨_,rfl,?_⟩;have n0_:=Aside0.mk (Kd.R_mono (ok':=fun k_ => some k_≠(.slice Ao46 t359.length co46 : Value).ownBlock∧some k_≠(.slice Ao43 t375.length co43 : Value).ownBlock) (Kd.R_keptB (HO_6.out) hkp (fun k_ hk_ hs_ => by first|exact hk_.1 hs_|exact hk_.1 hs_|exact hk_.2.1 hs_|exact hk_.2 hs_|exact hk_.2.2.1 hs_|exact hk_.2.2 hs_|exact hk_.2.2.2 hs_)) (fun k_ hk_ => by first|exact ⟨hk_.1.1,hk_.1.2⟩|(simp only [and_assoc] at hk_;exact ⟨hk_.1,hk_.2.1⟩)));have n1_:=Aside0.mk (Kd.R_reok rfl hy0 (fun k_ e_ => HO_9.out.1 k_ e_));have n2_:=Aside0.mk (Kd.R_mono (ok':=fun k_ => some k_≠(.slice Ao47 t348.length co47 : Value).ownBlock∧some k_≠(.slice Ao46 t359.length co46 : Value).ownBlock) (Kd.R_keptB (HO_359001.out) hkp (fun k_ hk_ hs_ => (hk_.2) hs_)) (fun k_ hk_ => by first|exact ⟨hk_.1.1,hk_.1.2⟩|(simp only [and_assoc] at hk_;exact ⟨hk_.1,hk_.2.1⟩)));have n3_:=Aside0.mk (blk_kept (by (with_reducible repeat (first|refine blk_drewN ?_ _|refine blk_drew ?_|refine blk_alloc ?_ _));exact BK338.out) hkp (fun hs_ => (fun e_ => (Kd.R_ne HO_9.out BK338.out (by decide)) e_) hs_));have n4_:=Aside0.mk (blk_kept (by (with_reducible repeat (first|refine blk_drewN ?_ _|refine blk_drew ?_|refine blk_alloc ?_ _));exact BK358.out) hkp (fun hs_ => (fun e_ => (Kd.R_ne HO_9.out BK358.out (by decide)) e_) hs_));have n5_:=Aside0.mk (hb);clear HO_6 HO_9 HO_359001 BK338 BK358 HB;have HO_6:=n0_;have HO_9:=n1_;have HO_359001:=n2_;have BK338:=n3_;have BK358:=n4_;have HB:=n5_;clear n0_ n1_ n2_ n3_ n4_ n5_;(try clear hb);(try clear hkp);(try clear hy0))|((with_reducible refine gate_callee (f:=30) rfl ?_);refine goesL_ (some 69) rfl rfl Tryd.func30 (by kernel_rfl) rfl #[.slice Ao46 t378.length co46,.int .i64 1] rfl (by (try simp only [List.map_toArray,List.map_cons,List.map_nil]);first|done|(rw [show t378.length = t359.length from (Kd.R_reads' HO_9.out).1.symm] <;> rfl)|rfl|(simp only [List.length_drop,List.length_take];rfl)) ?_;(with_reducible refine (laws_heldInt64S.calls kj26 _ _ t378 1 t379 _ ?side1 ?side2 A61.out).mono ?_);(case side1 => repeat (first|exact (Kd.R_reads' HO_9.out).2.2|(with_reducible first|refine Kd.C_alloc ?_ _|refine Kd.C_drewN ?_ _|refine Kd.C_drew ?_)));(case side2 => rw [show t378.length = t359.length from (Kd.R_reads' HO_9.out).1.symm];exact (Kd.R_reads' HO_9.out).2.1);rintro e w' ⟨rfl,⟨nd,rfl⟩⟩;refine ⟨_,rfl,?_⟩))
              (try (rw [drewN_self w89];generalize hq_ : World.drewN w89 _ = w89;have n0_ : Aside0 (Kd.R (Kd.int .i64) 2 w89 w.heap.size (fun k_ => some k_≠(.slice Ao47 t348.length co47 : Value).ownBlock∧some k_≠(.slice Ao46 t359.length co46 : Value).ownBlock) (.slice Ao43 t375.length co43) t375):=⟨by rw [← hq_];exact (by (with_reducible repeat (first|apply Kd.R_alloc|apply Kd.R_drewN|apply Kd.R_drew));exact HO_359001.out)⟩;have n1_ : Aside0 (Kd.R (Kd.int .i64) 2 w89 w.heap.size (fun k_ => some k_≠(.slice Ao43 t375.length co43 : Value).ownBlock∧some k_≠(.slice Ao46 t359.length co46 : Value).ownBlock) (.slice Ao47 t348.length co47) t348):=⟨by rw [← hq_];exact (by (with_reducible repeat (first|apply Kd.R_alloc|apply Kd.R_drewN|apply Kd.R_drew));exact Kd.R_mono HO_6.out (fun _ hk => ⟨hk.2,hk.1⟩))⟩;have n2_ : Aside0 (Kd.R (Kd.int .i64) 2 w89 w.heap.size (fun k_ => some k_≠(.slice Ao43 t375.length co43 : Value).ownBlock∧some k_≠(.slice Ao47 t348.length co47 : Value).ownBlock) (.slice Ao46 t359.length co46) t378):=⟨by rw [← hq_];exact (by (with_reducible repeat (first|apply Kd.R_alloc|apply Kd.R_drewN|apply Kd.R_drew));exact Kd.R_mono HO_9.out (fun _ hk => ⟨hk.2,hk.1⟩))⟩;have n3_ : Aside0 (w89.heap[gb338]? = some (.cells #[.int .i64 a1_0,.slice A1_1 l1_1.length c1_1] 25 (0,0))):=⟨by rw [← hq_];exact (by (with_reducible repeat (first|refine blk_drewN ?_ _|refine blk_drew ?_|refine blk_alloc ?_ _));exact BK338.out)⟩;have n4_ : Aside0 (w89.heap[gb358]? = some (.cells #[.int .i64 t354,.slice Ao43 t375.length co43] 30 (0,0))):=⟨by rw [← hq_];exact (by (with_reducible repeat (first|refine blk_drewN ?_ _|refine blk_drew ?_|refine blk_alloc ?_ _));exact BK358.out)⟩;have n5_ : Aside0 (Below w.heap.size w w89):=⟨by rw [← hq_];exact (by repeat (first|(with_reducible first|exact HB.out|apply below_alloc|apply pw_below_drewN|apply below_drew1|refine below_set ?_ GE338.out|refine below_set ?_ GE358.out)|exact HB.out))⟩;clear HO_359001 HO_6 HO_9 BK338 BK358 HB hq_;have HO_359001:=n0_;have HO_6:=n1_;have HO_9:=n2_;have BK338:=n3_;have BK358:=n4_;have HB:=n5_;clear n0_ n1_ n2_ n3_ n4_ n5_))
              have n0_:=Aside0.mk (Kd.R_drew HO_6.out)
              have n1_:=Aside0.mk (Kd.R_drew HO_9.out)
              have n2_:=Aside0.mk (Kd.R_drew HO_359001.out)
              have n3_:=Aside0.mk (blk_drew BK338.out)
              have n4_:=Aside0.mk (blk_drew BK358.out)
              have n5_:=Aside0.mk (below_drew1 HB.out)
              clear HO_6
              clear HO_9
              clear HO_359001
              clear BK338
              clear BK358
              clear HB
              have HO_6:=n0_
              have HO_9:=n1_
              have HO_359001:=n2_
              have BK338:=n3_
              have BK358:=n4_
              have HB:=n5_
              clear n0_ n1_ n2_ n3_ n4_ n5_
              refine start_ (n:=6) (S:=fun w' => w'.cell? ⟨gb338,0,none⟩ = some (.int .i64 a1_0)∧w'.cell? ⟨gb338,1,none⟩ = some (.slice A1_1 l1_1.length c1_1)) (ds:=[]) #[false,false,false,false,false,false] (by kernel_rfl) rfl rfl ⟨(blk_cell BK338.out 0).trans rfl,(blk_cell BK338.out 1).trans rfl⟩ (fun hHeld => ?_)
              generalize w89.drew = w90 at HO_6 HO_9 HO_359001 BK338 BK358 HB hHeld ⊢
              refine pure_ (i:=0) (N:=some 75) (v:=?_) (a':=?_) #[true,false,false,false,false,false] rfl rfl (by kernel_rfl) (fun _ _ _ h => h) (Or.inl ⟨by rfl,?_⟩) ?_ ?_
              rotate_left
              ·intro w'
               go_simp
               with_reducible rfl
              rotate_left
              ·simp only [Act.put,List.setIfInBounds_toArray,List.set_cons_zero,List.set_cons_succ,i64_w,i32_w]
               rfl
              refine take_ (i:=2) (N:=some 77) (v:=?_) (a':=?_) #[true,false,true,false,false,false] rfl rfl (by kernel_rfl) (fun _ _ _ h => h) (Or.inl ⟨by rfl,?_⟩) hHeld ?_ ?_
              rotate_left
              ·rintro w' ⟨s0,s1⟩
               go_simp
               with_reducible rfl
              rotate_left
              ·simp only [Act.put,List.setIfInBounds_toArray,List.set_cons_zero,List.set_cons_succ,i64_w,i32_w]
               rfl
              refine one_ (i:=1) (N:=some 76) #[true,true,true,false,false,false] rfl rfl (by kernel_rfl) (by decide) (fun K hK => ?_)
              refine goes_ Tryd.func19 (by kernel_rfl) rfl #[.slice A0 l0.length c0] (by rfl) rfl rfl (by (try simp only [List.map_toArray,List.map_cons,List.map_nil]);first|done|rfl|(simp only [List.length_drop,List.length_take];rfl)) ?_
              with_reducible refine (laws_toStringS.calls kj26 _ _ l0 t380 _ ?side1 ?side2 A65.out).mono ?_
              (case side1 => repeat (first|exact (Kd.C_below HR0.out HB.out)|(with_reducible first|refine Kd.C_alloc ?_ _|refine Kd.C_drewN ?_ _|refine Kd.C_drew ?_)))
              (case side2 => exact HC0.out)
              rintro e w91 ⟨v381,rfl,ho0,hb⟩
              refine ⟨_,rfl,?_⟩
              have n0_:=Aside0.mk (Kd.R_below (by (with_reducible repeat (first|apply Kd.R_alloc|apply Kd.R_drewN|apply Kd.R_drew));exact HO_6.out) hb)
              have n1_:=Aside0.mk (Kd.R_below (by (with_reducible repeat (first|apply Kd.R_alloc|apply Kd.R_drewN|apply Kd.R_drew));exact HO_9.out) hb)
              have n2_:=Aside0.mk (Kd.R_below (by (with_reducible repeat (first|apply Kd.R_alloc|apply Kd.R_drewN|apply Kd.R_drew));exact HO_359001.out) hb)
              have n3_:=Aside0.mk (Kd.R_lower ho0 (below_size (by repeat (first|(with_reducible first|exact HB.out|apply below_alloc|apply pw_below_drewN|apply below_drew1|refine below_set ?_ GE338.out|refine below_set ?_ GE358.out)|exact HB.out))))
              have n4_:=Aside0.mk (blk_below (g:=gb338) (o:=.cells #[.int .i64 a1_0,.slice A1_1 l1_1.length c1_1] 25 (0,0)) (by (with_reducible repeat (first|refine blk_drewN ?_ _|refine blk_drew ?_|refine blk_alloc ?_ _));exact BK338.out) hb)
              have n5_:=Aside0.mk (blk_below (g:=gb358) (o:=.cells #[.int .i64 t354,.slice Ao43 t375.length co43] 30 (0,0)) (by (with_reducible repeat (first|refine blk_drewN ?_ _|refine blk_drew ?_|refine blk_alloc ?_ _));exact BK358.out) hb)
              have n6_:=Aside0.mk (below_step (by repeat (first|(with_reducible first|exact HB.out|apply below_alloc|apply pw_below_drewN|apply below_drew1|refine below_set ?_ GE338.out|refine below_set ?_ GE358.out)|exact HB.out)) hb)
              clear HO_6
              clear HO_9
              clear HO_359001
              clear BK338
              clear BK358
              clear HB
              have HO_6:=n0_
              have HO_9:=n1_
              have HO_359001:=n2_
              have HO382:=n3_
              have BK338:=n4_
              have BK358:=n5_
              have HB:=n6_
              clear n0_ n1_ n2_ n3_ n4_ n5_ n6_
              (try clear hb)
              (try clear hb2)
              (try clear hk)
              (try clear hi)
              (try clear ho0)
              refine hK.out _ _ ⟨(blk_cell BK338.out 0).trans rfl,(blk_cell BK338.out 1).trans rfl⟩ (fun hHeld => ?_)
              clear hK K
              refine norm_ (a':=?_) ?_ ?_
              rotate_left
              ·show Act.put _ (some 76) _ = _
               simp only [Act.put,List.setIfInBounds_toArray,List.set_cons_zero,List.set_cons_succ,i64_w,i32_w]
               rfl
              refine one_ (i:=3) (N:=some 78) #[true,true,true,true,false,false] rfl rfl (by kernel_rfl) (by decide) (fun K hK => ?_)
              refine goes_ Tryd.func20 (by kernel_rfl) rfl #[.agg #[.int .i64 a1_0,.slice A1_1 l1_1.length c1_1]] (by rfl) rfl rfl (by (try simp only [List.map_toArray,List.map_cons,List.map_nil]);first|done|rfl|(simp only [List.length_drop,List.length_take];rfl)) ?_
              with_reducible refine (laws_toNursery.calls kj26 a1_0 _ _ l1_1 t383 t384 _ ?side1 ?side2 A66.out).mono ?_
              (case side1 => repeat (first|exact (Kd.C_below HR1_1.out HB.out)|(with_reducible first|refine Kd.C_alloc ?_ _|refine Kd.C_drewN ?_ _|refine Kd.C_drew ?_)))
              (case side2 => exact HC1_1.out)
              rintro e w92 ⟨v385,rfl,ho0,hb⟩
              refine ⟨_,rfl,?_⟩
              have n0_:=Aside0.mk (Kd.R_elder' (by (with_reducible repeat (first|apply Kd.R_alloc|apply Kd.R_drewN|apply Kd.R_drew));exact HO_6.out) (Kd.R_base ho0) hb)
              have n1_:=Aside0.mk (Kd.R_elder' (by (with_reducible repeat (first|apply Kd.R_alloc|apply Kd.R_drewN|apply Kd.R_drew));exact HO_9.out) (Kd.R_base ho0) hb)
              have n2_:=Aside0.mk (Kd.R_elder' (by (with_reducible repeat (first|apply Kd.R_alloc|apply Kd.R_drewN|apply Kd.R_drew));exact HO_359001.out) (Kd.R_base ho0) hb)
              have n3_:=Aside0.mk (Kd.R_below (by (with_reducible repeat (first|apply Kd.R_alloc|apply Kd.R_drewN|apply Kd.R_drew));exact HO382.out) hb)
              have n4_:=Aside0.mk (Kd.R_lower (Kd.R_new' (Kd.R_new' (Kd.R_new' ho0 (Kd.R_lt (by (with_reducible repeat (first|apply Kd.R_alloc|apply Kd.R_drewN|apply Kd.R_drew));exact HO_6.out))) (Kd.R_lt (by (with_reducible repeat (first|apply Kd.R_alloc|apply Kd.R_drewN|apply Kd.R_drew));exact HO_9.out))) (Kd.R_lt (by (with_reducible repeat (first|apply Kd.R_alloc|apply Kd.R_drewN|apply Kd.R_drew));exact HO_359001.out))) (below_size (by repeat (first|(with_reducible first|exact HB.out|apply below_alloc|apply pw_below_drewN|apply below_drew1|refine below_set ?_ GE338.out|refine below_set ?_ GE358.out)|exact HB.out))))
              have n5_:=Aside0.mk (blk_below (g:=gb338) (o:=.cells #[.int .i64 a1_0,.slice A1_1 l1_1.length c1_1] 25 (0,0)) (by (with_reducible repeat (first|refine blk_drewN ?_ _|refine blk_drew ?_|refine blk_alloc ?_ _));exact BK338.out) hb)
              have n6_:=Aside0.mk (blk_below (g:=gb358) (o:=.cells #[.int .i64 t354,.slice Ao43 t375.length co43] 30 (0,0)) (by (with_reducible repeat (first|refine blk_drewN ?_ _|refine blk_drew ?_|refine blk_alloc ?_ _));exact BK358.out) hb)
              have n7_:=Aside0.mk (below_step (by repeat (first|(with_reducible first|exact HB.out|apply below_alloc|apply pw_below_drewN|apply below_drew1|refine below_set ?_ GE338.out|refine below_set ?_ GE358.out)|exact HB.out)) hb)
              clear HO_6
              clear HO_9
              clear HO_359001
              clear HO382
              clear BK338
              clear BK358
              clear HB
              have HO_6:=n0_
              have HO_9:=n1_
              have HO_359001:=n2_
              have HO382:=n3_
              have HO386:=n4_
              have BK338:=n5_
              have BK358:=n6_
              have HB:=n7_
              clear n0_ n1_ n2_ n3_ n4_ n5_ n6_ n7_
              (try clear hb)
              (try clear hb2)
              (try clear hk)
              (try clear hi)
              (try clear ho0)
              obtain ⟨Ao93,co93,eo93⟩:=Kd.R_slice HO382.out
              (first|subst eo93|(injection eo93 with f1_ f2_ f3_;have f4_:=f1_.symm;have f5_:=f3_.symm;clear f1_ f2_ f3_;subst f4_;subst f5_))
              obtain ⟨Ao94,co94,eo94⟩:=Kd.R_slice HO386.out
              (first|subst eo94|(injection eo94 with f1_ f2_ f3_;have f4_:=f1_.symm;have f5_:=f3_.symm;clear f1_ f2_ f3_;subst f4_;subst f5_))
              refine hK.out _ _ ⟨(blk_cell BK338.out 0).trans rfl,(blk_cell BK338.out 1).trans rfl⟩ (fun hHeld => ?_)
              clear hK K
              refine norm_ (a':=?_) ?_ ?_
              rotate_left
              ·show Act.put _ (some 78) _ = _
               simp only [Act.put,List.setIfInBounds_toArray,List.set_cons_zero,List.set_cons_succ,i64_w,i32_w]
               rfl
              refine one_ (i:=4) (N:=some 79) #[true,true,true,true,true,false] rfl rfl (by kernel_rfl) (by decide) (fun K hK => ?_)
              refine goes_ Tryd.func32 (by kernel_rfl) rfl #[.slice Ao93 t380.length co93,.agg #[.int .i64 t383,.slice Ao94 t384.length co94]] (by rfl) rfl rfl (by (try simp only [List.map_toArray,List.map_cons,List.map_nil]);first|done|rfl|(simp only [List.length_drop,List.length_take];rfl)) ?_
              with_reducible refine (impl_Ages.calls kj26 _ _ t380 t383 _ _ t384 t387 _ ?side1 ?side2 ?side3 ?side4 A67.out).mono ?_
              (case side1 => repeat (first|exact (Kd.R_reads' HO382.out).2.2|(with_reducible first|refine Kd.C_alloc ?_ _|refine Kd.C_drewN ?_ _|refine Kd.C_drew ?_)))
              (case side2 => exact (Kd.R_reads' HO382.out).2.1)
              (case side3 => repeat (first|exact (Kd.R_reads' HO386.out).2.2|(with_reducible first|refine Kd.C_alloc ?_ _|refine Kd.C_drewN ?_ _|refine Kd.C_drew ?_)))
              (case side4 => exact (Kd.R_reads' HO386.out).2.1)
              rintro e w95 ⟨v388,rfl,ho0,hb⟩
              refine ⟨_,rfl,?_⟩
              have n0_:=Aside0.mk (Kd.R_elder' (by (with_reducible repeat (first|apply Kd.R_alloc|apply Kd.R_drewN|apply Kd.R_drew));exact HO_6.out) (Kd.R_base ho0) hb)
              have n1_:=Aside0.mk (Kd.R_elder' (by (with_reducible repeat (first|apply Kd.R_alloc|apply Kd.R_drewN|apply Kd.R_drew));exact HO_9.out) (Kd.R_base ho0) hb)
              have n2_:=Aside0.mk (Kd.R_elder' (by (with_reducible repeat (first|apply Kd.R_alloc|apply Kd.R_drewN|apply Kd.R_drew));exact HO_359001.out) (Kd.R_base ho0) hb)
              have n3_:=Aside0.mk (Kd.R_below (by (with_reducible repeat (first|apply Kd.R_alloc|apply Kd.R_drewN|apply Kd.R_drew));exact HO382.out) hb)
              have n4_:=Aside0.mk (Kd.R_elder' (by (with_reducible repeat (first|apply Kd.R_alloc|apply Kd.R_drewN|apply Kd.R_drew));exact HO386.out) (Kd.R_base ho0) hb)
              have n5_:=Aside0.mk (Kd.R_lower (Kd.R_new' (Kd.R_new' (Kd.R_new' (Kd.R_new' ho0 (Kd.R_lt (by (with_reducible repeat (first|apply Kd.R_alloc|apply Kd.R_drewN|apply Kd.R_drew));exact HO_6.out))) (Kd.R_lt (by (with_reducible repeat (first|apply Kd.R_alloc|apply Kd.R_drewN|apply Kd.R_drew));exact HO_9.out))) (Kd.R_lt (by (with_reducible repeat (first|apply Kd.R_alloc|apply Kd.R_drewN|apply Kd.R_drew));exact HO_359001.out))) (Kd.R_lt (by (with_reducible repeat (first|apply Kd.R_alloc|apply Kd.R_drewN|apply Kd.R_drew));exact HO386.out))) (below_size (by repeat (first|(with_reducible first|exact HB.out|apply below_alloc|apply pw_below_drewN|apply below_drew1|refine below_set ?_ GE338.out|refine below_set ?_ GE358.out)|exact HB.out))))
              have n6_:=Aside0.mk (blk_below (g:=gb338) (o:=.cells #[.int .i64 a1_0,.slice A1_1 l1_1.length c1_1] 25 (0,0)) (by (with_reducible repeat (first|refine blk_drewN ?_ _|refine blk_drew ?_|refine blk_alloc ?_ _));exact BK338.out) hb)
              have n7_:=Aside0.mk (blk_below (g:=gb358) (o:=.cells #[.int .i64 t354,.slice Ao43 t375.length co43] 30 (0,0)) (by (with_reducible repeat (first|refine blk_drewN ?_ _|refine blk_drew ?_|refine blk_alloc ?_ _));exact BK358.out) hb)
              have n8_:=Aside0.mk (below_step (by repeat (first|(with_reducible first|exact HB.out|apply below_alloc|apply pw_below_drewN|apply below_drew1|refine below_set ?_ GE338.out|refine below_set ?_ GE358.out)|exact HB.out)) hb)
              clear HO_6
              clear HO_9
              clear HO_359001
              clear HO382
              clear HO386
              clear BK338
              clear BK358
              clear HB
              have HO_6:=n0_
              have HO_9:=n1_
              have HO_359001:=n2_
              have HO382:=n3_
              have HO386:=n4_
              have HO389:=n5_
              have BK338:=n6_
              have BK358:=n7_
              have HB:=n8_
              clear n0_ n1_ n2_ n3_ n4_ n5_ n6_ n7_ n8_
              (try clear hb)
              (try clear hb2)
              (try clear hk)
              (try clear hi)
              (try clear ho0)
              refine hK.out _ _ ⟨(blk_cell BK338.out 0).trans rfl,(blk_cell BK338.out 1).trans rfl⟩ (fun hHeld => ?_)
              clear hK K
              refine norm_ (a':=?_) ?_ ?_
              rotate_left
              ·show Act.put _ (some 79) _ = _
               simp only [Act.put,List.setIfInBounds_toArray,List.set_cons_zero,List.set_cons_succ,i64_w,i32_w]
               rfl
              refine pure_ (i:=5) (N:=some 13) (v:=?_) (a':=?_) #[true,true,true,true,true,true] rfl rfl (by kernel_rfl) (fun _ _ _ h => h) (Or.inl ⟨by rfl,?_⟩) ?_ ?_
              rotate_left
              ·intro w'
               go_simp
               with_reducible rfl
              rotate_left
              ·simp only [Act.put,List.setIfInBounds_toArray,List.set_cons_zero,List.set_cons_succ,i64_w,i32_w]
               rfl
              refine done_ (by kernel_rfl) ?_
              obtain ⟨Ao96,co96,eo96⟩:=Kd.R_slice HO389.out
              subst eo96
              try go_wp2_with (first|((with_reducible refine gate_callee (f:=26) rfl ?_);refine goesL_ (some 82) rfl rfl Tryd.func26 (by kernel_rfl) rfl #[.slice Ao96 t387.length co96,.slice Ao47 t348.length co47] rfl (by (try simp only [List.map_toArray,List.map_cons,List.map_nil]);first|done|rfl|(simp only [List.length_drop,List.length_take];rfl)) ?_;(with_reducible refine (laws_eqInt64S.calls kj26 _ _ t387 _ _ t348 true _ ?side1 ?side2 ?side3 ?side4 A68.out).mono ?_);(case side1 => repeat (first|exact (Kd.R_reads' HO389.out).2.2|(with_reducible first|refine Kd.C_alloc ?_ _|refine Kd.C_drewN ?_ _|refine Kd.C_drew ?_)));(case side2 => exact (Kd.R_reads' HO389.out).2.1);(case side3 => repeat (first|exact (Kd.R_reads' HO_6.out).2.2|(with_reducible first|refine Kd.C_alloc ?_ _|refine Kd.C_drewN ?_ _|refine Kd.C_drew ?_)));(case side4 => exact (Kd.R_reads' HO_6.out).2.1);rintro e w' ⟨rfl,⟨nd,rfl⟩⟩;refine ⟨_,rfl,?_⟩)|((with_reducible refine gate_callee (f:=30) rfl ?_);refine goesL_ (some 86) rfl rfl Tryd.func30 (by kernel_rfl) rfl #[.slice Ao46 t378.length co46,.int .i64 1] rfl (by (try simp only [List.map_toArray,List.map_cons,List.map_nil]);first|done|(rw [show t378.length = t359.length from (Kd.R_reads' HO_9.out).1.symm] <;> rfl)|rfl|(simp only [List.length_drop,List.length_take];rfl)) ?_;(with_reducible refine (laws_heldInt64S.calls kj26 _ _ t378 1 t391 _ ?side1 ?side2 A70.out).mono ?_);(case side1 => repeat (first|exact (Kd.R_reads' HO_9.out).2.2|(with_reducible first|refine Kd.C_alloc ?_ _|refine Kd.C_drewN ?_ _|refine Kd.C_drew ?_)));(case side2 => rw [show t378.length = t359.length from (Kd.R_reads' HO_9.out).1.symm];exact (Kd.R_reads' HO_9.out).2.1);rintro e w' ⟨rfl,⟨nd,rfl⟩⟩;refine ⟨_,rfl,?_⟩))
              go_ret
              exact ⟨by first|rfl|(simp [errW_none,errW_some] <;> rfl)|(simp [*,errW_none,errW_some] <;> rfl),by repeat (first|(with_reducible first|exact HB.out|apply below_alloc|apply pw_below_drewN|apply below_drew1|refine below_set ?_ GE338.out|refine below_set ?_ GE358.out)|exact HB.out)⟩
           ·replace c69:=Bool.eq_false_iff.mpr c69
            subst c69
            have H1 : (some false) = some r:=by rw [if_neg (show ¬ (false = true) by decide)] at H;exact H
            clear H
            have H:=H1
            clear H1
            obtain rfl:=Option.some.inj H
            try go_wp2_with (first|((with_reducible refine gate_callee (f:=29) rfl ?_);refine goesL_ (some 66) rfl rfl Tryd.func29 (by kernel_rfl) rfl #[.slice Ao46 t359.length co46,.int .i64 1] rfl (by (try simp only [List.map_toArray,List.map_cons,List.map_nil]);first|done|rfl|(simp only [List.length_drop,List.length_take];rfl)) ?_;(with_reducible refine (laws_markInt64S.calls kj26 (fun k_ => some k_ = (.slice Ao46 t359.length co46 : Value).ownBlock) (.slice Ao46 t359.length co46) t359 1 t377 t378 w _ ?side1 ?side2 A60.out).mono ?_);(case side1 => repeat (first|(with_reducible first|exact HB.out|apply below_alloc|apply pw_below_drewN|apply below_drew1|refine below_set ?_ GE338.out|refine below_set ?_ GE358.out)|exact HB.out));(case side2 => exact Kd.R_tight rfl HO_9.out);rintro e w97 ⟨rfl,hy0,hb,hkp⟩;refine ⟨_,rfl,?_⟩;have n0_:=Aside0.mk (Kd.R_mono (ok':=fun k_ => some k_≠(.slice Ao46 t359.length co46 : Value).ownBlock∧some k_≠(.slice Ao43 t375.length co43 : Value).ownBlock) (Kd.R_keptB (HO_6.out) hkp (fun k_ hk_ hs_ => by first|exact hk_.1 hs_|exact hk_.1 hs_|exact hk_.2.1 hs_|exact hk_.2 hs_|exact hk_.2.2.1 hs_|exact hk_.2.2 hs_|exact hk_.2.2.2 hs_)) (fun k_ hk_ => by first|exact ⟨hk_.1.1,hk_.1.2⟩|(simp only [and_assoc] at hk_;exact ⟨hk_.1,hk_.2.1⟩)));have n1_:=Aside0.mk (Kd.R_reok rfl hy0 (fun k_ e_ => HO_9.out.1 k_ e_));have n2_:=Aside0.mk (Kd.R_mono (ok':=fun k_ => some k_≠(.slice Ao47 t348.length co47 : Value).ownBlock∧some k_≠(.slice Ao46 t359.length co46 : Value).ownBlock) (Kd.R_keptB (HO_359001.out) hkp (fun k_ hk_ hs_ => (hk_.2) hs_)) (fun k_ hk_ => by first|exact ⟨hk_.1.1,hk_.1.2⟩|(simp only [and_assoc] at hk_;exact ⟨hk_.1,hk_.2.1⟩)));have n3_:=Aside0.mk (blk_kept (by (with_reducible repeat (first|refine blk_drewN ?_ _|refine blk_drew ?_|refine blk_alloc ?_ _));exact BK338.out) hkp (fun hs_ => (fun e_ => (Kd.R_ne HO_9.out BK338.out (by decide)) e_) hs_));have n4_:=Aside0.mk (blk_kept (by (with_reducible repeat (first|refine blk_drewN ?_ _|refine blk_drew ?_|refine blk_alloc ?_ _));exact BK358.out) hkp (fun hs_ => (fun e_ => (Kd.R_ne HO_9.out BK358.out (by decide)) e_) hs_));have n5_:=Aside0.mk (hb);clear HO_6 HO_9 HO_359001 BK338 BK358 HB;have HO_6:=n0_;have HO_9:=n1_;have HO_359001:=n2_;have BK338:=n3_;have BK358:=n4_;have HB:=n5_;clear n0_ n1_ n2_ n3_ n4_ n5_;(try clear hb);(try clear hkp);(try clear hy0))|((with_reducible refine gate_callee (f:=30) rfl ?_);refine goesL_ (some 69) rfl rfl Tryd.func30 (by kernel_rfl) rfl #[.slice Ao46 t378.length co46,.int .i64 1] rfl (by (try simp only [List.map_toArray,List.map_cons,List.map_nil]);first|done|(rw [show t378.length = t359.length from (Kd.R_reads' HO_9.out).1.symm] <;> rfl)|rfl|(simp only [List.length_drop,List.length_take];rfl)) ?_;(with_reducible refine (laws_heldInt64S.calls kj26 _ _ t378 1 t379 _ ?side1 ?side2 A61.out).mono ?_);(case side1 => repeat (first|exact (Kd.R_reads' HO_9.out).2.2|(with_reducible first|refine Kd.C_alloc ?_ _|refine Kd.C_drewN ?_ _|refine Kd.C_drew ?_)));(case side2 => rw [show t378.length = t359.length from (Kd.R_reads' HO_9.out).1.symm];exact (Kd.R_reads' HO_9.out).2.1);rintro e w' ⟨rfl,⟨nd,rfl⟩⟩;refine ⟨_,rfl,?_⟩))
            (try (rw [drewN_self w97];generalize hq_ : World.drewN w97 _ = w97;have n0_ : Aside0 (Kd.R (Kd.int .i64) 2 w97 w.heap.size (fun k_ => some k_≠(.slice Ao47 t348.length co47 : Value).ownBlock∧some k_≠(.slice Ao46 t359.length co46 : Value).ownBlock) (.slice Ao43 t375.length co43) t375):=⟨by rw [← hq_];exact (by (with_reducible repeat (first|apply Kd.R_alloc|apply Kd.R_drewN|apply Kd.R_drew));exact HO_359001.out)⟩;have n1_ : Aside0 (Kd.R (Kd.int .i64) 2 w97 w.heap.size (fun k_ => some k_≠(.slice Ao43 t375.length co43 : Value).ownBlock∧some k_≠(.slice Ao46 t359.length co46 : Value).ownBlock) (.slice Ao47 t348.length co47) t348):=⟨by rw [← hq_];exact (by (with_reducible repeat (first|apply Kd.R_alloc|apply Kd.R_drewN|apply Kd.R_drew));exact Kd.R_mono HO_6.out (fun _ hk => ⟨hk.2,hk.1⟩))⟩;have n2_ : Aside0 (Kd.R (Kd.int .i64) 2 w97 w.heap.size (fun k_ => some k_≠(.slice Ao43 t375.length co43 : Value).ownBlock∧some k_≠(.slice Ao47 t348.length co47 : Value).ownBlock) (.slice Ao46 t359.length co46) t378):=⟨by rw [← hq_];exact (by (with_reducible repeat (first|apply Kd.R_alloc|apply Kd.R_drewN|apply Kd.R_drew));exact Kd.R_mono HO_9.out (fun _ hk => ⟨hk.2,hk.1⟩))⟩;have n3_ : Aside0 (w97.heap[gb338]? = some (.cells #[.int .i64 a1_0,.slice A1_1 l1_1.length c1_1] 25 (0,0))):=⟨by rw [← hq_];exact (by (with_reducible repeat (first|refine blk_drewN ?_ _|refine blk_drew ?_|refine blk_alloc ?_ _));exact BK338.out)⟩;have n4_ : Aside0 (w97.heap[gb358]? = some (.cells #[.int .i64 t354,.slice Ao43 t375.length co43] 30 (0,0))):=⟨by rw [← hq_];exact (by (with_reducible repeat (first|refine blk_drewN ?_ _|refine blk_drew ?_|refine blk_alloc ?_ _));exact BK358.out)⟩;have n5_ : Aside0 (Below w.heap.size w w97):=⟨by rw [← hq_];exact (by repeat (first|(with_reducible first|exact HB.out|apply below_alloc|apply pw_below_drewN|apply below_drew1|refine below_set ?_ GE338.out|refine below_set ?_ GE358.out)|exact HB.out))⟩;clear HO_359001 HO_6 HO_9 BK338 BK358 HB hq_;have HO_359001:=n0_;have HO_6:=n1_;have HO_9:=n2_;have BK338:=n3_;have BK358:=n4_;have HB:=n5_;clear n0_ n1_ n2_ n3_ n4_ n5_))
            have n0_:=Aside0.mk (Kd.R_drew HO_6.out)
            have n1_:=Aside0.mk (Kd.R_drew HO_9.out)
            have n2_:=Aside0.mk (Kd.R_drew HO_359001.out)
            have n3_:=Aside0.mk (blk_drew BK338.out)
            have n4_:=Aside0.mk (blk_drew BK358.out)
            have n5_:=Aside0.mk (below_drew1 HB.out)
            clear HO_6
            clear HO_9
            clear HO_359001
            clear BK338
            clear BK358
            clear HB
            have HO_6:=n0_
            have HO_9:=n1_
            have HO_359001:=n2_
            have BK338:=n3_
            have BK358:=n4_
            have HB:=n5_
            clear n0_ n1_ n2_ n3_ n4_ n5_
            refine start_ (n:=6) (S:=fun w' => w'.cell? ⟨gb338,0,none⟩ = some (.int .i64 a1_0)∧w'.cell? ⟨gb338,1,none⟩ = some (.slice A1_1 l1_1.length c1_1)) (ds:=[]) #[false,false,false,false,false,false] (by kernel_rfl) rfl rfl ⟨(blk_cell BK338.out 0).trans rfl,(blk_cell BK338.out 1).trans rfl⟩ (fun hHeld => ?_)
            generalize w97.drew = w98 at HO_6 HO_9 HO_359001 BK338 BK358 HB hHeld ⊢
            refine pure_ (i:=0) (N:=some 75) (v:=?_) (a':=?_) #[true,false,false,false,false,false] rfl rfl (by kernel_rfl) (fun _ _ _ h => h) (Or.inl ⟨by rfl,?_⟩) ?_ ?_
            rotate_left
            ·intro w'
             go_simp
             with_reducible rfl
            rotate_left
            ·simp only [Act.put,List.setIfInBounds_toArray,List.set_cons_zero,List.set_cons_succ,i64_w,i32_w]
             rfl
            refine take_ (i:=2) (N:=some 77) (v:=?_) (a':=?_) #[true,false,true,false,false,false] rfl rfl (by kernel_rfl) (fun _ _ _ h => h) (Or.inl ⟨by rfl,?_⟩) hHeld ?_ ?_
            rotate_left
            ·rintro w' ⟨s0,s1⟩
             go_simp
             with_reducible rfl
            rotate_left
            ·simp only [Act.put,List.setIfInBounds_toArray,List.set_cons_zero,List.set_cons_succ,i64_w,i32_w]
             rfl
            refine one_ (i:=1) (N:=some 76) #[true,true,true,false,false,false] rfl rfl (by kernel_rfl) (by decide) (fun K hK => ?_)
            refine goes_ Tryd.func19 (by kernel_rfl) rfl #[.slice A0 l0.length c0] (by rfl) rfl rfl (by (try simp only [List.map_toArray,List.map_cons,List.map_nil]);first|done|rfl|(simp only [List.length_drop,List.length_take];rfl)) ?_
            with_reducible refine (laws_toStringS.calls kj26 _ _ l0 t380 _ ?side1 ?side2 A65.out).mono ?_
            (case side1 => repeat (first|exact (Kd.C_below HR0.out HB.out)|(with_reducible first|refine Kd.C_alloc ?_ _|refine Kd.C_drewN ?_ _|refine Kd.C_drew ?_)))
            (case side2 => exact HC0.out)
            rintro e w99 ⟨v381,rfl,ho0,hb⟩
            refine ⟨_,rfl,?_⟩
            have n0_:=Aside0.mk (Kd.R_below (by (with_reducible repeat (first|apply Kd.R_alloc|apply Kd.R_drewN|apply Kd.R_drew));exact HO_6.out) hb)
            have n1_:=Aside0.mk (Kd.R_below (by (with_reducible repeat (first|apply Kd.R_alloc|apply Kd.R_drewN|apply Kd.R_drew));exact HO_9.out) hb)
            have n2_:=Aside0.mk (Kd.R_below (by (with_reducible repeat (first|apply Kd.R_alloc|apply Kd.R_drewN|apply Kd.R_drew));exact HO_359001.out) hb)
            have n3_:=Aside0.mk (Kd.R_lower ho0 (below_size (by repeat (first|(with_reducible first|exact HB.out|apply below_alloc|apply pw_below_drewN|apply below_drew1|refine below_set ?_ GE338.out|refine below_set ?_ GE358.out)|exact HB.out))))
            have n4_:=Aside0.mk (blk_below (g:=gb338) (o:=.cells #[.int .i64 a1_0,.slice A1_1 l1_1.length c1_1] 25 (0,0)) (by (with_reducible repeat (first|refine blk_drewN ?_ _|refine blk_drew ?_|refine blk_alloc ?_ _));exact BK338.out) hb)
            have n5_:=Aside0.mk (blk_below (g:=gb358) (o:=.cells #[.int .i64 t354,.slice Ao43 t375.length co43] 30 (0,0)) (by (with_reducible repeat (first|refine blk_drewN ?_ _|refine blk_drew ?_|refine blk_alloc ?_ _));exact BK358.out) hb)
            have n6_:=Aside0.mk (below_step (by repeat (first|(with_reducible first|exact HB.out|apply below_alloc|apply pw_below_drewN|apply below_drew1|refine below_set ?_ GE338.out|refine below_set ?_ GE358.out)|exact HB.out)) hb)
            clear HO_6
            clear HO_9
            clear HO_359001
            clear BK338
            clear BK358
            clear HB
            have HO_6:=n0_
            have HO_9:=n1_
            have HO_359001:=n2_
            have HO382:=n3_
            have BK338:=n4_
            have BK358:=n5_
            have HB:=n6_
            clear n0_ n1_ n2_ n3_ n4_ n5_ n6_
            (try clear hb)
            (try clear hb2)
            (try clear hk)
            (try clear hi)
            (try clear ho0)
            refine hK.out _ _ ⟨(blk_cell BK338.out 0).trans rfl,(blk_cell BK338.out 1).trans rfl⟩ (fun hHeld => ?_)
            clear hK K
            refine norm_ (a':=?_) ?_ ?_
            rotate_left
            ·show Act.put _ (some 76) _ = _
             simp only [Act.put,List.setIfInBounds_toArray,List.set_cons_zero,List.set_cons_succ,i64_w,i32_w]
             rfl
            refine one_ (i:=3) (N:=some 78) #[true,true,true,true,false,false] rfl rfl (by kernel_rfl) (by decide) (fun K hK => ?_)
            refine goes_ Tryd.func20 (by kernel_rfl) rfl #[.agg #[.int .i64 a1_0,.slice A1_1 l1_1.length c1_1]] (by rfl) rfl rfl (by (try simp only [List.map_toArray,List.map_cons,List.map_nil]);first|done|rfl|(simp only [List.length_drop,List.length_take];rfl)) ?_
            with_reducible refine (laws_toNursery.calls kj26 a1_0 _ _ l1_1 t383 t384 _ ?side1 ?side2 A66.out).mono ?_
            (case side1 => repeat (first|exact (Kd.C_below HR1_1.out HB.out)|(with_reducible first|refine Kd.C_alloc ?_ _|refine Kd.C_drewN ?_ _|refine Kd.C_drew ?_)))
            (case side2 => exact HC1_1.out)
            rintro e w100 ⟨v385,rfl,ho0,hb⟩
            refine ⟨_,rfl,?_⟩
            have n0_:=Aside0.mk (Kd.R_elder' (by (with_reducible repeat (first|apply Kd.R_alloc|apply Kd.R_drewN|apply Kd.R_drew));exact HO_6.out) (Kd.R_base ho0) hb)
            have n1_:=Aside0.mk (Kd.R_elder' (by (with_reducible repeat (first|apply Kd.R_alloc|apply Kd.R_drewN|apply Kd.R_drew));exact HO_9.out) (Kd.R_base ho0) hb)
            have n2_:=Aside0.mk (Kd.R_elder' (by (with_reducible repeat (first|apply Kd.R_alloc|apply Kd.R_drewN|apply Kd.R_drew));exact HO_359001.out) (Kd.R_base ho0) hb)
            have n3_:=Aside0.mk (Kd.R_below (by (with_reducible repeat (first|apply Kd.R_alloc|apply Kd.R_drewN|apply Kd.R_drew));exact HO382.out) hb)
            have n4_:=Aside0.mk (Kd.R_lower (Kd.R_new' (Kd.R_new' (Kd.R_new' ho0 (Kd.R_lt (by (with_reducible repeat (first|apply Kd.R_alloc|apply Kd.R_drewN|apply Kd.R_drew));exact HO_6.out))) (Kd.R_lt (by (with_reducible repeat (first|apply Kd.R_alloc|apply Kd.R_drewN|apply Kd.R_drew));exact HO_9.out))) (Kd.R_lt (by (with_reducible repeat (first|apply Kd.R_alloc|apply Kd.R_drewN|apply Kd.R_drew));exact HO_359001.out))) (below_size (by repeat (first|(with_reducible first|exact HB.out|apply below_alloc|apply pw_below_drewN|apply below_drew1|refine below_set ?_ GE338.out|refine below_set ?_ GE358.out)|exact HB.out))))
            have n5_:=Aside0.mk (blk_below (g:=gb338) (o:=.cells #[.int .i64 a1_0,.slice A1_1 l1_1.length c1_1] 25 (0,0)) (by (with_reducible repeat (first|refine blk_drewN ?_ _|refine blk_drew ?_|refine blk_alloc ?_ _));exact BK338.out) hb)
            have n6_:=Aside0.mk (blk_below (g:=gb358) (o:=.cells #[.int .i64 t354,.slice Ao43 t375.length co43] 30 (0,0)) (by (with_reducible repeat (first|refine blk_drewN ?_ _|refine blk_drew ?_|refine blk_alloc ?_ _));exact BK358.out) hb)
            have n7_:=Aside0.mk (below_step (by repeat (first|(with_reducible first|exact HB.out|apply below_alloc|apply pw_below_drewN|apply below_drew1|refine below_set ?_ GE338.out|refine below_set ?_ GE358.out)|exact HB.out)) hb)
            clear HO_6
            clear HO_9
            clear HO_359001
            clear HO382
            clear BK338
            clear BK358
            clear HB
            have HO_6:=n0_
            have HO_9:=n1_
            have HO_359001:=n2_
            have HO382:=n3_
            have HO386:=n4_
            have BK338:=n5_
            have BK358:=n6_
            have HB:=n7_
            clear n0_ n1_ n2_ n3_ n4_ n5_ n6_ n7_
            (try clear hb)
            (try clear hb2)
            (try clear hk)
            (try clear hi)
            (try clear ho0)
            obtain ⟨Ao101,co101,eo101⟩:=Kd.R_slice HO382.out
            (first|subst eo101|(injection eo101 with f1_ f2_ f3_;have f4_:=f1_.symm;have f5_:=f3_.symm;clear f1_ f2_ f3_;subst f4_;subst f5_))
            obtain ⟨Ao102,co102,eo102⟩:=Kd.R_slice HO386.out
            (first|subst eo102|(injection eo102 with f1_ f2_ f3_;have f4_:=f1_.symm;have f5_:=f3_.symm;clear f1_ f2_ f3_;subst f4_;subst f5_))
            refine hK.out _ _ ⟨(blk_cell BK338.out 0).trans rfl,(blk_cell BK338.out 1).trans rfl⟩ (fun hHeld => ?_)
            clear hK K
            refine norm_ (a':=?_) ?_ ?_
            rotate_left
            ·show Act.put _ (some 78) _ = _
             simp only [Act.put,List.setIfInBounds_toArray,List.set_cons_zero,List.set_cons_succ,i64_w,i32_w]
             rfl
            refine one_ (i:=4) (N:=some 79) #[true,true,true,true,true,false] rfl rfl (by kernel_rfl) (by decide) (fun K hK => ?_)
            refine goes_ Tryd.func32 (by kernel_rfl) rfl #[.slice Ao101 t380.length co101,.agg #[.int .i64 t383,.slice Ao102 t384.length co102]] (by rfl) rfl rfl (by (try simp only [List.map_toArray,List.map_cons,List.map_nil]);first|done|rfl|(simp only [List.length_drop,List.length_take];rfl)) ?_
            with_reducible refine (impl_Ages.calls kj26 _ _ t380 t383 _ _ t384 t387 _ ?side1 ?side2 ?side3 ?side4 A67.out).mono ?_
            (case side1 => repeat (first|exact (Kd.R_reads' HO382.out).2.2|(with_reducible first|refine Kd.C_alloc ?_ _|refine Kd.C_drewN ?_ _|refine Kd.C_drew ?_)))
            (case side2 => exact (Kd.R_reads' HO382.out).2.1)
            (case side3 => repeat (first|exact (Kd.R_reads' HO386.out).2.2|(with_reducible first|refine Kd.C_alloc ?_ _|refine Kd.C_drewN ?_ _|refine Kd.C_drew ?_)))
            (case side4 => exact (Kd.R_reads' HO386.out).2.1)
            rintro e w103 ⟨v388,rfl,ho0,hb⟩
            refine ⟨_,rfl,?_⟩
            have n0_:=Aside0.mk (Kd.R_elder' (by (with_reducible repeat (first|apply Kd.R_alloc|apply Kd.R_drewN|apply Kd.R_drew));exact HO_6.out) (Kd.R_base ho0) hb)
            have n1_:=Aside0.mk (Kd.R_elder' (by (with_reducible repeat (first|apply Kd.R_alloc|apply Kd.R_drewN|apply Kd.R_drew));exact HO_9.out) (Kd.R_base ho0) hb)
            have n2_:=Aside0.mk (Kd.R_elder' (by (with_reducible repeat (first|apply Kd.R_alloc|apply Kd.R_drewN|apply Kd.R_drew));exact HO_359001.out) (Kd.R_base ho0) hb)
            have n3_:=Aside0.mk (Kd.R_below (by (with_reducible repeat (first|apply Kd.R_alloc|apply Kd.R_drewN|apply Kd.R_drew));exact HO382.out) hb)
            have n4_:=Aside0.mk (Kd.R_elder' (by (with_reducible repeat (first|apply Kd.R_alloc|apply Kd.R_drewN|apply Kd.R_drew));exact HO386.out) (Kd.R_base ho0) hb)
            have n5_:=Aside0.mk (Kd.R_lower (Kd.R_new' (Kd.R_new' (Kd.R_new' (Kd.R_new' ho0 (Kd.R_lt (by (with_reducible repeat (first|apply Kd.R_alloc|apply Kd.R_drewN|apply Kd.R_drew));exact HO_6.out))) (Kd.R_lt (by (with_reducible repeat (first|apply Kd.R_alloc|apply Kd.R_drewN|apply Kd.R_drew));exact HO_9.out))) (Kd.R_lt (by (with_reducible repeat (first|apply Kd.R_alloc|apply Kd.R_drewN|apply Kd.R_drew));exact HO_359001.out))) (Kd.R_lt (by (with_reducible repeat (first|apply Kd.R_alloc|apply Kd.R_drewN|apply Kd.R_drew));exact HO386.out))) (below_size (by repeat (first|(with_reducible first|exact HB.out|apply below_alloc|apply pw_below_drewN|apply below_drew1|refine below_set ?_ GE338.out|refine below_set ?_ GE358.out)|exact HB.out))))
            have n6_:=Aside0.mk (blk_below (g:=gb338) (o:=.cells #[.int .i64 a1_0,.slice A1_1 l1_1.length c1_1] 25 (0,0)) (by (with_reducible repeat (first|refine blk_drewN ?_ _|refine blk_drew ?_|refine blk_alloc ?_ _));exact BK338.out) hb)
            have n7_:=Aside0.mk (blk_below (g:=gb358) (o:=.cells #[.int .i64 t354,.slice Ao43 t375.length co43] 30 (0,0)) (by (with_reducible repeat (first|refine blk_drewN ?_ _|refine blk_drew ?_|refine blk_alloc ?_ _));exact BK358.out) hb)
            have n8_:=Aside0.mk (below_step (by repeat (first|(with_reducible first|exact HB.out|apply below_alloc|apply pw_below_drewN|apply below_drew1|refine below_set ?_ GE338.out|refine below_set ?_ GE358.out)|exact HB.out)) hb)
            clear HO_6
            clear HO_9
            clear HO_359001
            clear HO382
            clear HO386
            clear BK338
            clear BK358
            clear HB
            have HO_6:=n0_
            have HO_9:=n1_
            have HO_359001:=n2_
            have HO382:=n3_
            have HO386:=n4_
            have HO389:=n5_
            have BK338:=n6_
            have BK358:=n7_
            have HB:=n8_
            clear n0_ n1_ n2_ n3_ n4_ n5_ n6_ n7_ n8_
            (try clear hb)
            (try clear hb2)
            (try clear hk)
            (try clear hi)
            (try clear ho0)
            refine hK.out _ _ ⟨(blk_cell BK338.out 0).trans rfl,(blk_cell BK338.out 1).trans rfl⟩ (fun hHeld => ?_)
            clear hK K
            refine norm_ (a':=?_) ?_ ?_
            rotate_left
            ·show Act.put _ (some 79) _ = _
             simp only [Act.put,List.setIfInBounds_toArray,List.set_cons_zero,List.set_cons_succ,i64_w,i32_w]
             rfl
            refine pure_ (i:=5) (N:=some 13) (v:=?_) (a':=?_) #[true,true,true,true,true,true] rfl rfl (by kernel_rfl) (fun _ _ _ h => h) (Or.inl ⟨by rfl,?_⟩) ?_ ?_
            rotate_left
            ·intro w'
             go_simp
             with_reducible rfl
            rotate_left
            ·simp only [Act.put,List.setIfInBounds_toArray,List.set_cons_zero,List.set_cons_succ,i64_w,i32_w]
             rfl
            refine done_ (by kernel_rfl) ?_
            obtain ⟨Ao104,co104,eo104⟩:=Kd.R_slice HO389.out
            subst eo104
            try go_wp2_with (first|((with_reducible refine gate_callee (f:=26) rfl ?_);refine goesL_ (some 82) rfl rfl Tryd.func26 (by kernel_rfl) rfl #[.slice Ao104 t387.length co104,.slice Ao47 t348.length co47] rfl (by (try simp only [List.map_toArray,List.map_cons,List.map_nil]);first|done|rfl|(simp only [List.length_drop,List.length_take];rfl)) ?_;(with_reducible refine (laws_eqInt64S.calls kj26 _ _ t387 _ _ t348 false _ ?side1 ?side2 ?side3 ?side4 A68.out).mono ?_);(case side1 => repeat (first|exact (Kd.R_reads' HO389.out).2.2|(with_reducible first|refine Kd.C_alloc ?_ _|refine Kd.C_drewN ?_ _|refine Kd.C_drew ?_)));(case side2 => exact (Kd.R_reads' HO389.out).2.1);(case side3 => repeat (first|exact (Kd.R_reads' HO_6.out).2.2|(with_reducible first|refine Kd.C_alloc ?_ _|refine Kd.C_drewN ?_ _|refine Kd.C_drew ?_)));(case side4 => exact (Kd.R_reads' HO_6.out).2.1);rintro e w' ⟨rfl,⟨nd,rfl⟩⟩;refine ⟨_,rfl,?_⟩))
            go_ret
            exact ⟨by first|rfl|(simp [errW_none,errW_some] <;> rfl)|(simp [*,errW_none,errW_some] <;> rfl),by repeat (first|(with_reducible first|exact HB.out|apply below_alloc|apply pw_below_drewN|apply below_drew1|refine below_set ?_ GE338.out|refine below_set ?_ GE358.out)|exact HB.out)⟩
          ·rw [if_neg c64] at H
           have c64b0 : (t379 == t377) = false:=beq_eq_false_iff_ne.mpr c64
           have c64b1 : (t379 != t377) = true:=bne_iff_ne.mpr c64
           obtain rfl:=Option.some.inj H
           go_wp2_with (first|((with_reducible refine gate_callee (f:=29) rfl ?_);refine goesL_ (some 66) rfl rfl Tryd.func29 (by kernel_rfl) rfl #[.slice Ao46 t359.length co46,.int .i64 1] rfl (by (try simp only [List.map_toArray,List.map_cons,List.map_nil]);first|done|rfl|(simp only [List.length_drop,List.length_take];rfl)) ?_;(with_reducible refine (laws_markInt64S.calls kj26 (fun k_ => some k_ = (.slice Ao46 t359.length co46 : Value).ownBlock) (.slice Ao46 t359.length co46) t359 1 t377 t378 w _ ?side1 ?side2 A60.out).mono ?_);(case side1 => repeat (first|(with_reducible first|exact HB.out|apply below_alloc|apply pw_below_drewN|apply below_drew1|refine below_set ?_ GE338.out|refine below_set ?_ GE358.out)|exact HB.out));(case side2 => exact Kd.R_tight rfl HO_9.out);rintro e w105 ⟨rfl,hy0,hb,hkp⟩;refine ⟨_,rfl,?_⟩;have n0_:=Aside0.mk (Kd.R_mono (ok':=fun k_ => some k_≠(.slice Ao46 t359.length co46 : Value).ownBlock∧some k_≠(.slice Ao43 t375.length co43 : Value).ownBlock) (Kd.R_keptB (HO_6.out) hkp (fun k_ hk_ hs_ => by first|exact hk_.1 hs_|exact hk_.1 hs_|exact hk_.2.1 hs_|exact hk_.2 hs_|exact hk_.2.2.1 hs_|exact hk_.2.2 hs_|exact hk_.2.2.2 hs_)) (fun k_ hk_ => by first|exact ⟨hk_.1.1,hk_.1.2⟩|(simp only [and_assoc] at hk_;exact ⟨hk_.1,hk_.2.1⟩)));have n1_:=Aside0.mk (Kd.R_reok rfl hy0 (fun k_ e_ => HO_9.out.1 k_ e_));have n2_:=Aside0.mk (Kd.R_mono (ok':=fun k_ => some k_≠(.slice Ao47 t348.length co47 : Value).ownBlock∧some k_≠(.slice Ao46 t359.length co46 : Value).ownBlock) (Kd.R_keptB (HO_359001.out) hkp (fun k_ hk_ hs_ => (hk_.2) hs_)) (fun k_ hk_ => by first|exact ⟨hk_.1.1,hk_.1.2⟩|(simp only [and_assoc] at hk_;exact ⟨hk_.1,hk_.2.1⟩)));have n3_:=Aside0.mk (blk_kept (by (with_reducible repeat (first|refine blk_drewN ?_ _|refine blk_drew ?_|refine blk_alloc ?_ _));exact BK338.out) hkp (fun hs_ => (fun e_ => (Kd.R_ne HO_9.out BK338.out (by decide)) e_) hs_));have n4_:=Aside0.mk (blk_kept (by (with_reducible repeat (first|refine blk_drewN ?_ _|refine blk_drew ?_|refine blk_alloc ?_ _));exact BK358.out) hkp (fun hs_ => (fun e_ => (Kd.R_ne HO_9.out BK358.out (by decide)) e_) hs_));have n5_:=Aside0.mk (hb);clear HO_6 HO_9 HO_359001 BK338 BK358 HB;have HO_6:=n0_;have HO_9:=n1_;have HO_359001:=n2_;have BK338:=n3_;have BK358:=n4_;have HB:=n5_;clear n0_ n1_ n2_ n3_ n4_ n5_;(try clear hb);(try clear hkp);(try clear hy0))|((with_reducible refine gate_callee (f:=30) rfl ?_);refine goesL_ (some 69) rfl rfl Tryd.func30 (by kernel_rfl) rfl #[.slice Ao46 t378.length co46,.int .i64 1] rfl (by (try simp only [List.map_toArray,List.map_cons,List.map_nil]);first|done|(rw [show t378.length = t359.length from (Kd.R_reads' HO_9.out).1.symm] <;> rfl)|rfl|(simp only [List.length_drop,List.length_take];rfl)) ?_;(with_reducible refine (laws_heldInt64S.calls kj26 _ _ t378 1 t379 _ ?side1 ?side2 A61.out).mono ?_);(case side1 => repeat (first|exact (Kd.R_reads' HO_9.out).2.2|(with_reducible first|refine Kd.C_alloc ?_ _|refine Kd.C_drewN ?_ _|refine Kd.C_drew ?_)));(case side2 => rw [show t378.length = t359.length from (Kd.R_reads' HO_9.out).1.symm];exact (Kd.R_reads' HO_9.out).2.1);rintro e w' ⟨rfl,⟨nd,rfl⟩⟩;refine ⟨_,rfl,?_⟩))
           go_ret
           exact ⟨by first|rfl|(simp [errW_none,errW_some] <;> rfl)|(simp [*,errW_none,errW_some] <;> rfl),by repeat (first|(with_reducible first|exact HB.out|apply below_alloc|apply pw_below_drewN|apply below_drew1|refine below_set ?_ GE338.out|refine below_set ?_ GE358.out)|exact HB.out)⟩
     ·replace c24:=Bool.eq_false_iff.mpr c24
      subst c24
      have H1 : (some false) = some r:=by rw [if_neg (show ¬ (false = true) by decide)] at H;exact H
      clear H
      have H:=H1
      clear H1
      obtain rfl:=Option.some.inj H
      go_enter Tryd.func5,Tryd.ntmps5
      try go_wp2_with (first|((with_reducible refine gate_dst (N:=3) rfl ?_);refine box_event ?hg (N:=3) ?hd (cs:=#[.int .i64 a1_0,.slice A1_1 l1_1.length c1_1]) (t:=25) ?hr ?_;(case hd => rfl);(case hg => rfl);(case hr => first|(go_simp;done)|(go_simp;rfl));intro gb338 hg w106 hbox hb;have n0_:=Aside0.mk (below_step (by repeat (first|(with_reducible first|exact HB.out|apply below_alloc|apply pw_below_drewN|apply below_drew1)|exact HB.out)) hb);have n1_:=Aside0.mk (hbox);have n2_:=Aside0.mk ((by rw [hg];exact (below_size (by repeat (first|(with_reducible first|exact HB.out|apply below_alloc|apply pw_below_drewN|apply below_drew1)|exact HB.out))) : w.heap.size ≤ gb338));have n3_:=Aside0.mk ((by rw [hg];exact (below_size (by repeat (first|(with_reducible first|exact HB.out|apply below_alloc|apply pw_below_drewN|apply below_drew1)|exact HB.out))) : w.heap.size ≤ gb338));clear HB;have HB:=n0_;have BK338:=n1_;have GW338:=n2_;have GE338:=n3_;clear n0_ n1_ n2_ n3_;clear hb hbox hg)|((with_reducible refine gate_callee (f:=16) rfl ?_);refine goesL_ (some 16) rfl rfl Tryd.func16 (by kernel_rfl) rfl #[.slice A0 l0.length c0,.int .i64 1048576] rfl (by (try simp only [List.map_toArray,List.map_cons,List.map_nil]);first|done|rfl|(simp only [List.length_drop,List.length_take];rfl)) ?_;(with_reducible refine (laws_szStringS.calls k _ _ l0 1048576 t339 _ ?side1 ?side2 A3.out).mono ?_);(case side1 => repeat (first|exact (Kd.C_below HR0.out HB.out)|(with_reducible first|refine Kd.C_alloc ?_ _|refine Kd.C_drewN ?_ _|refine Kd.C_drew ?_)));(case side2 => exact HC0.out);rintro e w' ⟨rfl,⟨nd,rfl⟩⟩;refine ⟨_,rfl,?_⟩;(try (rw [drewN_self w106];generalize hq_ : World.drewN w106 _ = w106;have n0_ : Aside0 (w106.heap[gb338]? = some (.cells #[.int .i64 a1_0,.slice A1_1 l1_1.length c1_1] 25 (0,0))):=⟨by rw [← hq_];exact (by (with_reducible repeat (first|refine blk_drewN ?_ _|refine blk_drew ?_|refine blk_alloc ?_ _));exact BK338.out)⟩;have n1_ : Aside0 (Below w.heap.size w w106):=⟨by rw [← hq_];exact (by repeat (first|(with_reducible first|exact HB.out|apply below_alloc|apply pw_below_drewN|apply below_drew1|refine below_set ?_ GE338.out)|exact HB.out))⟩;clear BK338 HB hq_;have BK338:=n0_;have HB:=n1_;clear n0_ n1_));have hcz107_0 : w106.cell? ⟨gb338,0,none⟩ = some (.int .i64 a1_0):=(blk_cell BK338.out 0).trans rfl;have hcz107_1 : w106.cell? ⟨gb338,1,none⟩ = some (.slice A1_1 l1_1.length c1_1):=(blk_cell BK338.out 1).trans rfl;have hfz107_0:=blk_frozen BK338.out 0;have hfz107_1:=blk_frozen BK338.out 1)|((with_reducible refine gate_callee (f:=17) rfl ?_);refine goesL_ (some 21) rfl rfl Tryd.func17 (by kernel_rfl) rfl #[.agg #[.int .i64 a1_0,.slice A1_1 l1_1.length c1_1],.int .i64 t339] rfl (by (try simp only [List.map_toArray,List.map_cons,List.map_nil]);first|done|rfl|(simp only [List.length_drop,List.length_take];rfl)) ?_;(with_reducible refine (laws_szNursery.calls a1_0 _ _ l1_1 t339 t340 _ ?side1 ?side2 A6.out).mono ?_);(case side1 => repeat (first|exact (Kd.C_below HR1_1.out HB.out)|(with_reducible first|refine Kd.C_alloc ?_ _|refine Kd.C_drewN ?_ _|refine Kd.C_drew ?_)));(case side2 => exact HC1_1.out);rintro e w108 ⟨rfl,hb⟩;refine ⟨_,rfl,?_⟩;have n0_:=Aside0.mk (blk_below (g:=gb338) (o:=.cells #[.int .i64 a1_0,.slice A1_1 l1_1.length c1_1] 25 (0,0)) (by (with_reducible repeat (first|refine blk_drewN ?_ _|refine blk_drew ?_|refine blk_alloc ?_ _));exact BK338.out) hb);have n1_:=Aside0.mk (below_step (by repeat (first|(with_reducible first|exact HB.out|apply below_alloc|apply pw_below_drewN|apply below_drew1|refine below_set ?_ GE338.out)|exact HB.out)) hb);clear BK338 HB;have BK338:=n0_;have HB:=n1_;clear n0_ n1_;(try clear hb);(try clear hb2);(try clear hk);(try clear hi)))
      have n0_:=Aside0.mk (blk_drew BK338.out)
      have n1_:=Aside0.mk (below_drew1 HB.out)
      clear BK338
      clear HB
      have BK338:=n0_
      have HB:=n1_
      clear n0_ n1_
      refine start_ (n:=6) (S:=fun w' => w'.cell? ⟨gb338,0,none⟩ = some (.int .i64 a1_0)∧w'.cell? ⟨gb338,1,none⟩ = some (.slice A1_1 l1_1.length c1_1)) (ds:=[]) #[false,false,false,false,false,false] (by kernel_rfl) rfl rfl ⟨(blk_cell BK338.out 0).trans rfl,(blk_cell BK338.out 1).trans rfl⟩ (fun hHeld => ?_)
      generalize w108.drew = w109 at BK338 HB hHeld ⊢
      refine pure_ (i:=0) (N:=some 24) (v:=?_) (a':=?_) #[true,false,false,false,false,false] rfl rfl (by kernel_rfl) (fun _ _ _ h => h) (Or.inl ⟨by rfl,?_⟩) ?_ ?_
      rotate_left
      ·intro w'
       go_simp
       with_reducible rfl
      rotate_left
      ·simp only [Act.put,List.setIfInBounds_toArray,List.set_cons_zero,List.set_cons_succ,i64_w,i32_w]
       rfl
      refine take_ (i:=2) (N:=some 26) (v:=?_) (a':=?_) #[true,false,true,false,false,false] rfl rfl (by kernel_rfl) (fun _ _ _ h => h) (Or.inl ⟨by rfl,?_⟩) hHeld ?_ ?_
      rotate_left
      ·rintro w' ⟨s0,s1⟩
       go_simp
       with_reducible rfl
      rotate_left
      ·simp only [Act.put,List.setIfInBounds_toArray,List.set_cons_zero,List.set_cons_succ,i64_w,i32_w]
       rfl
      refine one_ (i:=1) (N:=some 25) #[true,true,true,false,false,false] rfl rfl (by kernel_rfl) (by decide) (fun K hK => ?_)
      refine goes_ Tryd.func19 (by kernel_rfl) rfl #[.slice A0 l0.length c0] (by rfl) rfl rfl (by (try simp only [List.map_toArray,List.map_cons,List.map_nil]);first|done|rfl|(simp only [List.length_drop,List.length_take];rfl)) ?_
      with_reducible refine (laws_toStringS.calls k _ _ l0 t341 _ ?side1 ?side2 A11.out).mono ?_
      (case side1 => repeat (first|exact (Kd.C_below HR0.out HB.out)|(with_reducible first|refine Kd.C_alloc ?_ _|refine Kd.C_drewN ?_ _|refine Kd.C_drew ?_)))
      (case side2 => exact HC0.out)
      rintro e w110 ⟨v342,rfl,ho0,hb⟩
      refine ⟨_,rfl,?_⟩
      have n0_:=Aside0.mk (Kd.R_lower ho0 (below_size (by repeat (first|(with_reducible first|exact HB.out|apply below_alloc|apply pw_below_drewN|apply below_drew1|refine below_set ?_ GE338.out)|exact HB.out))))
      have n1_:=Aside0.mk (blk_below (g:=gb338) (o:=.cells #[.int .i64 a1_0,.slice A1_1 l1_1.length c1_1] 25 (0,0)) (by (with_reducible repeat (first|refine blk_drewN ?_ _|refine blk_drew ?_|refine blk_alloc ?_ _));exact BK338.out) hb)
      have n2_:=Aside0.mk (below_step (by repeat (first|(with_reducible first|exact HB.out|apply below_alloc|apply pw_below_drewN|apply below_drew1|refine below_set ?_ GE338.out)|exact HB.out)) hb)
      clear BK338
      clear HB
      have HO343:=n0_
      have BK338:=n1_
      have HB:=n2_
      clear n0_ n1_ n2_
      (try clear hb)
      (try clear hb2)
      (try clear hk)
      (try clear hi)
      (try clear ho0)
      refine hK.out _ _ ⟨(blk_cell BK338.out 0).trans rfl,(blk_cell BK338.out 1).trans rfl⟩ (fun hHeld => ?_)
      clear hK K
      refine norm_ (a':=?_) ?_ ?_
      rotate_left
      ·show Act.put _ (some 25) _ = _
       simp only [Act.put,List.setIfInBounds_toArray,List.set_cons_zero,List.set_cons_succ,i64_w,i32_w]
       rfl
      refine one_ (i:=3) (N:=some 27) #[true,true,true,true,false,false] rfl rfl (by kernel_rfl) (by decide) (fun K hK => ?_)
      refine goes_ Tryd.func20 (by kernel_rfl) rfl #[.agg #[.int .i64 a1_0,.slice A1_1 l1_1.length c1_1]] (by rfl) rfl rfl (by (try simp only [List.map_toArray,List.map_cons,List.map_nil]);first|done|rfl|(simp only [List.length_drop,List.length_take];rfl)) ?_
      with_reducible refine (laws_toNursery.calls k a1_0 _ _ l1_1 t344 t345 _ ?side1 ?side2 A12.out).mono ?_
      (case side1 => repeat (first|exact (Kd.C_below HR1_1.out HB.out)|(with_reducible first|refine Kd.C_alloc ?_ _|refine Kd.C_drewN ?_ _|refine Kd.C_drew ?_)))
      (case side2 => exact HC1_1.out)
      rintro e w111 ⟨v346,rfl,ho0,hb⟩
      refine ⟨_,rfl,?_⟩
      have n0_:=Aside0.mk (Kd.R_below (by (with_reducible repeat (first|apply Kd.R_alloc|apply Kd.R_drewN|apply Kd.R_drew));exact HO343.out) hb)
      have n1_:=Aside0.mk (Kd.R_lower ho0 (below_size (by repeat (first|(with_reducible first|exact HB.out|apply below_alloc|apply pw_below_drewN|apply below_drew1|refine below_set ?_ GE338.out)|exact HB.out))))
      have n2_:=Aside0.mk (blk_below (g:=gb338) (o:=.cells #[.int .i64 a1_0,.slice A1_1 l1_1.length c1_1] 25 (0,0)) (by (with_reducible repeat (first|refine blk_drewN ?_ _|refine blk_drew ?_|refine blk_alloc ?_ _));exact BK338.out) hb)
      have n3_:=Aside0.mk (below_step (by repeat (first|(with_reducible first|exact HB.out|apply below_alloc|apply pw_below_drewN|apply below_drew1|refine below_set ?_ GE338.out)|exact HB.out)) hb)
      clear HO343
      clear BK338
      clear HB
      have HO343:=n0_
      have HO347:=n1_
      have BK338:=n2_
      have HB:=n3_
      clear n0_ n1_ n2_ n3_
      (try clear hb)
      (try clear hb2)
      (try clear hk)
      (try clear hi)
      (try clear ho0)
      obtain ⟨Ao112,co112,eo112⟩:=Kd.R_slice HO343.out
      (first|subst eo112|(injection eo112 with f1_ f2_ f3_;have f4_:=f1_.symm;have f5_:=f3_.symm;clear f1_ f2_ f3_;subst f4_;subst f5_))
      obtain ⟨Ao113,co113,eo113⟩:=Kd.R_slice HO347.out
      (first|subst eo113|(injection eo113 with f1_ f2_ f3_;have f4_:=f1_.symm;have f5_:=f3_.symm;clear f1_ f2_ f3_;subst f4_;subst f5_))
      refine hK.out _ _ ⟨(blk_cell BK338.out 0).trans rfl,(blk_cell BK338.out 1).trans rfl⟩ (fun hHeld => ?_)
      clear hK K
      refine norm_ (a':=?_) ?_ ?_
      rotate_left
      ·show Act.put _ (some 27) _ = _
       simp only [Act.put,List.setIfInBounds_toArray,List.set_cons_zero,List.set_cons_succ,i64_w,i32_w]
       rfl
      refine one_ (i:=4) (N:=some 28) #[true,true,true,true,true,false] rfl rfl (by kernel_rfl) (by decide) (fun K hK => ?_)
      refine goes_ Tryd.func31 (by kernel_rfl) rfl #[.slice Ao112 t341.length co112,.agg #[.int .i64 t344,.slice Ao113 t345.length co113]] (by rfl) rfl rfl (by (try simp only [List.map_toArray,List.map_cons,List.map_nil]);first|done|rfl|(simp only [List.length_drop,List.length_take];rfl)) ?_
      with_reducible refine (spec_Ages.calls k _ _ t341 t344 _ _ t345 t348 _ ?side1 ?side2 ?side3 ?side4 A13.out).mono ?_
      (case side1 => repeat (first|exact (Kd.R_reads' HO343.out).2.2|(with_reducible first|refine Kd.C_alloc ?_ _|refine Kd.C_drewN ?_ _|refine Kd.C_drew ?_)))
      (case side2 => exact (Kd.R_reads' HO343.out).2.1)
      (case side3 => repeat (first|exact (Kd.R_reads' HO347.out).2.2|(with_reducible first|refine Kd.C_alloc ?_ _|refine Kd.C_drewN ?_ _|refine Kd.C_drew ?_)))
      (case side4 => exact (Kd.R_reads' HO347.out).2.1)
      rintro e w114 ⟨v349,rfl,ho0,hb⟩
      refine ⟨_,rfl,?_⟩
      have n0_:=Aside0.mk (Kd.R_below (by (with_reducible repeat (first|apply Kd.R_alloc|apply Kd.R_drewN|apply Kd.R_drew));exact HO343.out) hb)
      have n1_:=Aside0.mk (Kd.R_elder' (by (with_reducible repeat (first|apply Kd.R_alloc|apply Kd.R_drewN|apply Kd.R_drew));exact HO347.out) (Kd.R_base ho0) hb)
      have n2_:=Aside0.mk (Kd.R_lower (Kd.R_new' ho0 (Kd.R_lt (by (with_reducible repeat (first|apply Kd.R_alloc|apply Kd.R_drewN|apply Kd.R_drew));exact HO347.out))) (below_size (by repeat (first|(with_reducible first|exact HB.out|apply below_alloc|apply pw_below_drewN|apply below_drew1|refine below_set ?_ GE338.out)|exact HB.out))))
      have n3_:=Aside0.mk (blk_below (g:=gb338) (o:=.cells #[.int .i64 a1_0,.slice A1_1 l1_1.length c1_1] 25 (0,0)) (by (with_reducible repeat (first|refine blk_drewN ?_ _|refine blk_drew ?_|refine blk_alloc ?_ _));exact BK338.out) hb)
      have n4_:=Aside0.mk (below_step (by repeat (first|(with_reducible first|exact HB.out|apply below_alloc|apply pw_below_drewN|apply below_drew1|refine below_set ?_ GE338.out)|exact HB.out)) hb)
      clear HO343
      clear HO347
      clear BK338
      clear HB
      have HO343:=n0_
      have HO347:=n1_
      have HO350:=n2_
      have BK338:=n3_
      have HB:=n4_
      clear n0_ n1_ n2_ n3_ n4_
      (try clear hb)
      (try clear hb2)
      (try clear hk)
      (try clear hi)
      (try clear ho0)
      refine hK.out _ _ ⟨(blk_cell BK338.out 0).trans rfl,(blk_cell BK338.out 1).trans rfl⟩ (fun hHeld => ?_)
      clear hK K
      refine norm_ (a':=?_) ?_ ?_
      rotate_left
      ·show Act.put _ (some 28) _ = _
       simp only [Act.put,List.setIfInBounds_toArray,List.set_cons_zero,List.set_cons_succ,i64_w,i32_w]
       rfl
      refine pure_ (i:=5) (N:=some 6) (v:=?_) (a':=?_) #[true,true,true,true,true,true] rfl rfl (by kernel_rfl) (fun _ _ _ h => h) (Or.inl ⟨by rfl,?_⟩) ?_ ?_
      rotate_left
      ·intro w'
       go_simp
       with_reducible rfl
      rotate_left
      ·simp only [Act.put,List.setIfInBounds_toArray,List.set_cons_zero,List.set_cons_succ,i64_w,i32_w]
       rfl
      refine done_ (by kernel_rfl) ?_
      try go_wp2_with (first|((with_reducible refine gate_callee (f:=19) rfl ?_);refine goesL_ (some 30) rfl rfl Tryd.func19 (by kernel_rfl) rfl #[.slice A0 l0.length c0] rfl (by (try simp only [List.map_toArray,List.map_cons,List.map_nil]);first|done|rfl|(simp only [List.length_drop,List.length_take];rfl)) ?_;(with_reducible refine (laws_toStringS.calls k _ _ l0 t351 _ ?side1 ?side2 A14.out).mono ?_);(case side1 => repeat (first|exact (Kd.C_below HR0.out HB.out)|(with_reducible first|refine Kd.C_alloc ?_ _|refine Kd.C_drewN ?_ _|refine Kd.C_drew ?_)));(case side2 => exact HC0.out);rintro e w115 ⟨v352,rfl,ho0,hb⟩;refine ⟨_,rfl,?_⟩;have n0_:=Aside0.mk (Kd.R_elder' (by (with_reducible repeat (first|apply Kd.R_alloc|apply Kd.R_drewN|apply Kd.R_drew));exact HO343.out) (Kd.R_base ho0) hb);have n1_:=Aside0.mk (Kd.R_below (by (with_reducible repeat (first|apply Kd.R_alloc|apply Kd.R_drewN|apply Kd.R_drew));exact HO347.out) hb);have n2_:=Aside0.mk (Kd.R_below (by (with_reducible repeat (first|apply Kd.R_alloc|apply Kd.R_drewN|apply Kd.R_drew));exact HO350.out) hb);have n3_:=Aside0.mk (Kd.R_lower (Kd.R_new' ho0 (Kd.R_lt (by (with_reducible repeat (first|apply Kd.R_alloc|apply Kd.R_drewN|apply Kd.R_drew));exact HO343.out))) (below_size (by repeat (first|(with_reducible first|exact HB.out|apply below_alloc|apply pw_below_drewN|apply below_drew1|refine below_set ?_ GE338.out)|exact HB.out))));have n4_:=Aside0.mk (blk_below (g:=gb338) (o:=.cells #[.int .i64 a1_0,.slice A1_1 l1_1.length c1_1] 25 (0,0)) (by (with_reducible repeat (first|refine blk_drewN ?_ _|refine blk_drew ?_|refine blk_alloc ?_ _));exact BK338.out) hb);have n5_:=Aside0.mk (below_step (by repeat (first|(with_reducible first|exact HB.out|apply below_alloc|apply pw_below_drewN|apply below_drew1|refine below_set ?_ GE338.out)|exact HB.out)) hb);clear HO343 HO347 HO350 BK338 HB;have HO343:=n0_;have HO347:=n1_;have HO350:=n2_;have HO353:=n3_;have BK338:=n4_;have HB:=n5_;clear n0_ n1_ n2_ n3_ n4_ n5_;(try clear hb);(try clear hb2);(try clear hk);(try clear hi);(try clear ho0);have hcz116_0 : w115.cell? ⟨gb338,0,none⟩ = some (.int .i64 a1_0):=(blk_cell BK338.out 0).trans rfl;have hcz116_1 : w115.cell? ⟨gb338,1,none⟩ = some (.slice A1_1 l1_1.length c1_1):=(blk_cell BK338.out 1).trans rfl;have hfz116_0:=blk_frozen BK338.out 0;have hfz116_1:=blk_frozen BK338.out 1)|((with_reducible refine gate_callee (f:=20) rfl ?_);refine goesL_ (some 32) rfl rfl Tryd.func20 (by kernel_rfl) rfl #[.agg #[.int .i64 a1_0,.slice A1_1 l1_1.length c1_1]] rfl (by (try simp only [List.map_toArray,List.map_cons,List.map_nil]);first|done|rfl|(simp only [List.length_drop,List.length_take];rfl)) ?_;(with_reducible refine (laws_toNursery.calls k a1_0 _ _ l1_1 t354 t355 _ ?side1 ?side2 A15.out).mono ?_);(case side1 => repeat (first|exact (Kd.C_below HR1_1.out HB.out)|(with_reducible first|refine Kd.C_alloc ?_ _|refine Kd.C_drewN ?_ _|refine Kd.C_drew ?_)));(case side2 => exact HC1_1.out);rintro e w117 ⟨v356,rfl,ho0,hb⟩;refine ⟨_,rfl,?_⟩;have n0_:=Aside0.mk (Kd.R_below (by (with_reducible repeat (first|apply Kd.R_alloc|apply Kd.R_drewN|apply Kd.R_drew));exact HO343.out) hb);have n1_:=Aside0.mk (Kd.R_elder' (by (with_reducible repeat (first|apply Kd.R_alloc|apply Kd.R_drewN|apply Kd.R_drew));exact HO347.out) (Kd.R_base ho0) hb);have n2_:=Aside0.mk (Kd.R_elder' (by (with_reducible repeat (first|apply Kd.R_alloc|apply Kd.R_drewN|apply Kd.R_drew));exact HO350.out) (Kd.R_base ho0) hb);have n3_:=Aside0.mk (Kd.R_below (by (with_reducible repeat (first|apply Kd.R_alloc|apply Kd.R_drewN|apply Kd.R_drew));exact HO353.out) hb);have n4_:=Aside0.mk (Kd.R_lower (Kd.R_new' (Kd.R_new' ho0 (Kd.R_lt (by (with_reducible repeat (first|apply Kd.R_alloc|apply Kd.R_drewN|apply Kd.R_drew));exact HO347.out))) (Kd.R_lt (by (with_reducible repeat (first|apply Kd.R_alloc|apply Kd.R_drewN|apply Kd.R_drew));exact HO350.out))) (below_size (by repeat (first|(with_reducible first|exact HB.out|apply below_alloc|apply pw_below_drewN|apply below_drew1|refine below_set ?_ GE338.out)|exact HB.out))));have n5_:=Aside0.mk (blk_below (g:=gb338) (o:=.cells #[.int .i64 a1_0,.slice A1_1 l1_1.length c1_1] 25 (0,0)) (by (with_reducible repeat (first|refine blk_drewN ?_ _|refine blk_drew ?_|refine blk_alloc ?_ _));exact BK338.out) hb);have n6_:=Aside0.mk (below_step (by repeat (first|(with_reducible first|exact HB.out|apply below_alloc|apply pw_below_drewN|apply below_drew1|refine below_set ?_ GE338.out)|exact HB.out)) hb);clear HO343 HO347 HO350 HO353 BK338 HB;have HO343:=n0_;have HO347:=n1_;have HO350:=n2_;have HO353:=n3_;have HO357:=n4_;have BK338:=n5_;have HB:=n6_;clear n0_ n1_ n2_ n3_ n4_ n5_ n6_;(try clear hb);(try clear hb2);(try clear hk);(try clear hi);(try clear ho0))|((with_reducible refine gate_dst (N:=8) rfl ?_);refine box_event ?hg (N:=8) ?hd (cs:=#[.int .i64 0,.slice none 0 0]) (t:=30) ?hr ?_;(case hd => rfl);(case hg => rfl);(case hr => first|(go_simp;done)|(go_simp;rfl));intro gb358 hg w118 hbox hb;have n0_:=Aside0.mk (Kd.R_below (by (with_reducible repeat (first|apply Kd.R_alloc|apply Kd.R_drewN|apply Kd.R_drew));exact HO343.out) hb);have n1_:=Aside0.mk (Kd.R_below (by (with_reducible repeat (first|apply Kd.R_alloc|apply Kd.R_drewN|apply Kd.R_drew));exact HO347.out) hb);have n2_:=Aside0.mk (Kd.R_below (by (with_reducible repeat (first|apply Kd.R_alloc|apply Kd.R_drewN|apply Kd.R_drew));exact HO350.out) hb);have n3_:=Aside0.mk (Kd.R_below (by (with_reducible repeat (first|apply Kd.R_alloc|apply Kd.R_drewN|apply Kd.R_drew));exact HO353.out) hb);have n4_:=Aside0.mk (Kd.R_below (by (with_reducible repeat (first|apply Kd.R_alloc|apply Kd.R_drewN|apply Kd.R_drew));exact HO357.out) hb);have n5_:=Aside0.mk (blk_below (g:=gb338) (o:=.cells #[.int .i64 a1_0,.slice A1_1 l1_1.length c1_1] 25 (0,0)) (by (with_reducible repeat (first|refine blk_drewN ?_ _|refine blk_drew ?_|refine blk_alloc ?_ _));exact BK338.out) hb);have n6_:=Aside0.mk (below_step (by repeat (first|(with_reducible first|exact HB.out|apply below_alloc|apply pw_below_drewN|apply below_drew1|refine below_set ?_ GE338.out)|exact HB.out)) hb);have n7_:=Aside0.mk (hbox);have n8_:=Aside0.mk ((by rw [hg];exact (below_size (by repeat (first|(with_reducible first|exact HB.out|apply below_alloc|apply pw_below_drewN|apply below_drew1|refine below_set ?_ GE338.out)|exact HB.out))) : w.heap.size ≤ gb358));have n9_:=Aside0.mk ((by rw [hg];exact (below_size (by repeat (first|(with_reducible first|exact HB.out|apply below_alloc|apply pw_below_drewN|apply below_drew1|refine below_set ?_ GE338.out)|exact HB.out))) : w.heap.size ≤ gb358));have n10_:=Aside0.mk ((by rw [hg];exact Nat.ne_of_lt (blk_lt (g:=gb338) (o:=.cells #[.int .i64 a1_0,.slice A1_1 l1_1.length c1_1] 25 (0,0)) (by (with_reducible repeat (first|refine blk_drewN ?_ _|refine blk_drew ?_|refine blk_alloc ?_ _));exact BK338.out)) : gb338≠gb358));have n11_:=Aside0.mk ((by rw [hg];exact Nat.ne_of_gt (blk_lt (g:=gb338) (o:=.cells #[.int .i64 a1_0,.slice A1_1 l1_1.length c1_1] 25 (0,0)) (by (with_reducible repeat (first|refine blk_drewN ?_ _|refine blk_drew ?_|refine blk_alloc ?_ _));exact BK338.out)) : gb358≠gb338));clear HO343 HO347 HO350 HO353 HO357 BK338 HB;have HO343:=n0_;have HO347:=n1_;have HO350:=n2_;have HO353:=n3_;have HO357:=n4_;have BK338:=n5_;have HB:=n6_;have BK358:=n7_;have GW358:=n8_;have GE358:=n9_;have NB338_358:=n10_;have NB358_338:=n11_;clear n0_ n1_ n2_ n3_ n4_ n5_ n6_ n7_ n8_ n9_ n10_ n11_;clear hb hbox hg;have hnb119:=NB358_338.out;have hnc119:=NB338_358.out;have hcz120_0 : w118.cell? ⟨gb358,0,none⟩ = some (.int .i64 0):=(blk_cell BK358.out 0).trans rfl;have hcz120_1 : w118.cell? ⟨gb358,1,none⟩ = some (.slice none 0 0):=(blk_cell BK358.out 1).trans rfl;have hfz120_0:=blk_frozen BK358.out 0;have hfz120_1:=blk_frozen BK358.out 1;obtain ⟨Ao121,co121,eo121⟩:=Kd.R_slice HO357.out;subst eo121;obtain ⟨Ao122,co122,eo122⟩:=Kd.R_slice HO353.out;subst eo122)|((with_reducible refine gate_callee (f:=32) rfl ?_);refine goesL_ (some 35) rfl rfl Tryd.func32 (by kernel_rfl) rfl #[.slice Ao122 t351.length co122,.agg #[.int .i64 t354,.slice Ao121 t355.length co121]] rfl (by (try simp only [List.map_toArray,List.map_cons,List.map_nil]);first|done|rfl|(simp only [List.length_drop,List.length_take];rfl)) ?_;(with_reducible refine (impl_Ages.calls k _ _ t351 t354 _ _ t355 t359 _ ?side1 ?side2 ?side3 ?side4 A16.out).mono ?_);(case side1 => refine (Kd.R_reads' (e:=9) (base:=w.heap.size) (ok:=fun k_ => (True∧some k_≠(.slice Ao112 t341.length co112 : Value).ownBlock)) (n:=t351.length) (c:=co122) ?_).2.2;exact (by (with_reducible repeat (first|apply Kd.R_alloc|apply Kd.R_drewN|apply Kd.R_drew));exact (Kd.R_mono (Kd.R_far (p:=⟨gb358,1,none⟩) (Kd.R_far (p:=⟨gb358,0,none⟩) (Kd.R_types HO353.out BK358.out (by decide)) (fun _ hk => hk.2) (.int .i64 t354)) (fun _ hk => hk.2) (.slice Ao121 t355.length co121)) (fun _ h_ => h_.1))));(case side2 => exact (Kd.R_reads' HO353.out).2.1);(case side3 => refine (Kd.R_reads' (e:=2) (base:=w.heap.size) (ok:=fun k_ => ((True∧some k_≠(.slice Ao113 t345.length co113 : Value).ownBlock)∧some k_≠(v349 : Value).ownBlock)) (n:=t355.length) (c:=co121) ?_).2.2;exact (by (with_reducible repeat (first|apply Kd.R_alloc|apply Kd.R_drewN|apply Kd.R_drew));exact (Kd.R_mono (Kd.R_far (p:=⟨gb358,1,none⟩) (Kd.R_far (p:=⟨gb358,0,none⟩) (Kd.R_types HO357.out BK358.out (by decide)) (fun _ hk => hk.2) (.int .i64 t354)) (fun _ hk => hk.2) (.slice Ao121 t355.length co121)) (fun _ h_ => h_.1))));(case side4 => exact (Kd.R_reads' HO357.out).2.1);rintro e w123 ⟨v360,rfl,ho0,hb⟩;refine ⟨_,rfl,?_⟩;have n0_:=Aside0.mk (Kd.R_below (by (with_reducible repeat (first|apply Kd.R_alloc|apply Kd.R_drewN|apply Kd.R_drew));exact (Kd.R_mono (Kd.R_far (p:=⟨gb358,1,none⟩) (Kd.R_far (p:=⟨gb358,0,none⟩) (Kd.R_types HO343.out BK358.out (by decide)) (fun _ hk => hk.2) (.int .i64 t354)) (fun _ hk => hk.2) (.slice Ao121 t355.length co121)) (fun _ h_ => h_.1))) hb);have n1_:=Aside0.mk (Kd.R_elder' (by (with_reducible repeat (first|apply Kd.R_alloc|apply Kd.R_drewN|apply Kd.R_drew));exact (Kd.R_mono (Kd.R_far (p:=⟨gb358,1,none⟩) (Kd.R_far (p:=⟨gb358,0,none⟩) (Kd.R_types HO347.out BK358.out (by decide)) (fun _ hk => hk.2) (.int .i64 t354)) (fun _ hk => hk.2) (.slice Ao121 t355.length co121)) (fun _ h_ => h_.1))) (Kd.R_base ho0) hb);have n2_:=Aside0.mk (Kd.R_elder' (by (with_reducible repeat (first|apply Kd.R_alloc|apply Kd.R_drewN|apply Kd.R_drew));exact (Kd.R_mono (Kd.R_far (p:=⟨gb358,1,none⟩) (Kd.R_far (p:=⟨gb358,0,none⟩) (Kd.R_types HO350.out BK358.out (by decide)) (fun _ hk => hk.2) (.int .i64 t354)) (fun _ hk => hk.2) (.slice Ao121 t355.length co121)) (fun _ h_ => h_.1))) (Kd.R_base ho0) hb);have n3_:=Aside0.mk (Kd.R_below (by (with_reducible repeat (first|apply Kd.R_alloc|apply Kd.R_drewN|apply Kd.R_drew));exact (Kd.R_mono (Kd.R_far (p:=⟨gb358,1,none⟩) (Kd.R_far (p:=⟨gb358,0,none⟩) (Kd.R_types HO353.out BK358.out (by decide)) (fun _ hk => hk.2) (.int .i64 t354)) (fun _ hk => hk.2) (.slice Ao121 t355.length co121)) (fun _ h_ => h_.1))) hb);have n4_:=Aside0.mk (Kd.R_elder' (by (with_reducible repeat (first|apply Kd.R_alloc|apply Kd.R_drewN|apply Kd.R_drew));exact (Kd.R_mono (Kd.R_far (p:=⟨gb358,1,none⟩) (Kd.R_far (p:=⟨gb358,0,none⟩) (Kd.R_types HO357.out BK358.out (by decide)) (fun _ hk => hk.2) (.int .i64 t354)) (fun _ hk => hk.2) (.slice Ao121 t355.length co121)) (fun _ h_ => h_.1))) (Kd.R_base ho0) hb);have n5_:=Aside0.mk (Kd.R_lower (Kd.R_new' (Kd.R_new' (Kd.R_new' ho0 (Kd.R_lt (by (with_reducible repeat (first|apply Kd.R_alloc|apply Kd.R_drewN|apply Kd.R_drew));exact (Kd.R_mono (Kd.R_far (p:=⟨gb358,1,none⟩) (Kd.R_far (p:=⟨gb358,0,none⟩) (Kd.R_types HO347.out BK358.out (by decide)) (fun _ hk => hk.2) (.int .i64 t354)) (fun _ hk => hk.2) (.slice Ao121 t355.length co121)) (fun _ h_ => h_.1))))) (Kd.R_lt (by (with_reducible repeat (first|apply Kd.R_alloc|apply Kd.R_drewN|apply Kd.R_drew));exact (Kd.R_mono (Kd.R_far (p:=⟨gb358,1,none⟩) (Kd.R_far (p:=⟨gb358,0,none⟩) (Kd.R_types HO350.out BK358.out (by decide)) (fun _ hk => hk.2) (.int .i64 t354)) (fun _ hk => hk.2) (.slice Ao121 t355.length co121)) (fun _ h_ => h_.1))))) (Kd.R_lt (by (with_reducible repeat (first|apply Kd.R_alloc|apply Kd.R_drewN|apply Kd.R_drew));exact (Kd.R_mono (Kd.R_far (p:=⟨gb358,1,none⟩) (Kd.R_far (p:=⟨gb358,0,none⟩) (Kd.R_types HO357.out BK358.out (by decide)) (fun _ hk => hk.2) (.int .i64 t354)) (fun _ hk => hk.2) (.slice Ao121 t355.length co121)) (fun _ h_ => h_.1))))) (below_size (by repeat (first|(with_reducible first|exact HB.out|apply below_alloc|apply pw_below_drewN|apply below_drew1|refine below_set ?_ GE338.out|refine below_set ?_ GE358.out)|exact HB.out))));have n6_:=Aside0.mk (blk_below (g:=gb338) (o:=.cells #[.int .i64 a1_0,.slice A1_1 l1_1.length c1_1] 25 (0,0)) (by (with_reducible repeat (first|refine blk_drewN ?_ _|refine blk_drew ?_|refine blk_alloc ?_ _));refine blk_far ?_ NB338_358.out _;(with_reducible repeat (first|refine blk_drewN ?_ _|refine blk_drew ?_|refine blk_alloc ?_ _));refine blk_far ?_ NB338_358.out _;(with_reducible repeat (first|refine blk_drewN ?_ _|refine blk_drew ?_|refine blk_alloc ?_ _));exact BK338.out) hb);have n7_:=Aside0.mk (blk_below (g:=gb358) (o:=.cells #[.int .i64 t354,.slice Ao121 t355.length co121] 30 (0,0)) (by (with_reducible repeat (first|refine blk_drewN ?_ _|refine blk_drew ?_|refine blk_alloc ?_ _));refine blk_put (cs:=#[.int .i64 t354,.slice none 0 0]) ?_ 1 _ rfl;(with_reducible repeat (first|refine blk_drewN ?_ _|refine blk_drew ?_|refine blk_alloc ?_ _));refine blk_put (cs:=#[.int .i64 0,.slice none 0 0]) ?_ 0 _ rfl;(with_reducible repeat (first|refine blk_drewN ?_ _|refine blk_drew ?_|refine blk_alloc ?_ _));exact BK358.out) hb);have n8_:=Aside0.mk (below_step (by repeat (first|(with_reducible first|exact HB.out|apply below_alloc|apply pw_below_drewN|apply below_drew1|refine below_set ?_ GE338.out|refine below_set ?_ GE358.out)|exact HB.out)) hb);clear HO343 HO347 HO350 HO353 HO357 BK338 BK358 HB;have HO343:=n0_;have HO347:=n1_;have HO350:=n2_;have HO353:=n3_;have HO357:=n4_;have HO361:=n5_;have BK338:=n6_;have BK358:=n7_;have HB:=n8_;clear n0_ n1_ n2_ n3_ n4_ n5_ n6_ n7_ n8_;(try clear hb);(try clear hb2);(try clear hk);(try clear hi);(try clear ho0);obtain ⟨Ao124,co124,eo124⟩:=Kd.R_slice HO361.out;subst eo124;obtain ⟨Ao125,co125,eo125⟩:=Kd.R_slice HO350.out;subst eo125)|((with_reducible refine gate_callee (f:=26) rfl ?_);refine goesL_ (some 38) rfl rfl Tryd.func26 (by kernel_rfl) rfl #[.slice Ao124 t359.length co124,.slice Ao125 t348.length co125] rfl (by (try simp only [List.map_toArray,List.map_cons,List.map_nil]);first|done|rfl|(simp only [List.length_drop,List.length_take];rfl)) ?_;(with_reducible refine (laws_eqInt64S.calls k _ _ t359 _ _ t348 true _ ?side1 ?side2 ?side3 ?side4 A17.out).mono ?_);(case side1 => repeat (first|exact (Kd.R_reads' HO361.out).2.2|(with_reducible first|refine Kd.C_alloc ?_ _|refine Kd.C_drewN ?_ _|refine Kd.C_drew ?_)));(case side2 => exact (Kd.R_reads' HO361.out).2.1);(case side3 => repeat (first|exact (Kd.R_reads' HO350.out).2.2|(with_reducible first|refine Kd.C_alloc ?_ _|refine Kd.C_drewN ?_ _|refine Kd.C_drew ?_)));(case side4 => exact (Kd.R_reads' HO350.out).2.1);rintro e w' ⟨rfl,⟨nd,rfl⟩⟩;refine ⟨_,rfl,?_⟩)|((with_reducible refine gate_callee (f:=19) rfl ?_);refine goesL_ (some 42) rfl rfl Tryd.func19 (by kernel_rfl) rfl #[.slice A0 l0.length c0] rfl (by (try simp only [List.map_toArray,List.map_cons,List.map_nil]);first|done|rfl|(simp only [List.length_drop,List.length_take];rfl)) ?_;(with_reducible refine (laws_toStringS.calls k _ _ l0 t363 _ ?side1 ?side2 A19.out).mono ?_);(case side1 => repeat (first|exact (Kd.C_below HR0.out (by repeat (first|(with_reducible first|exact HB.out|apply below_alloc|apply pw_below_drewN|apply below_drew1|refine below_set ?_ GE338.out|refine below_set ?_ GE358.out)|exact HB.out)))|(with_reducible first|refine Kd.C_alloc ?_ _|refine Kd.C_drewN ?_ _|refine Kd.C_drew ?_)));(case side2 => exact HC0.out);rintro e w126 ⟨v364,rfl,ho0,hb⟩;refine ⟨_,rfl,?_⟩;have n0_:=Aside0.mk (Kd.R_elder' (by (with_reducible repeat (first|apply Kd.R_alloc|apply Kd.R_drewN|apply Kd.R_drew));exact HO343.out) (Kd.R_base ho0) hb);have n1_:=Aside0.mk (Kd.R_below (by (with_reducible repeat (first|apply Kd.R_alloc|apply Kd.R_drewN|apply Kd.R_drew));exact HO347.out) hb);have n2_:=Aside0.mk (Kd.R_below (by (with_reducible repeat (first|apply Kd.R_alloc|apply Kd.R_drewN|apply Kd.R_drew));exact HO350.out) hb);have n3_:=Aside0.mk (Kd.R_elder' (by (with_reducible repeat (first|apply Kd.R_alloc|apply Kd.R_drewN|apply Kd.R_drew));exact HO353.out) (Kd.R_base ho0) hb);have n4_:=Aside0.mk (Kd.R_below (by (with_reducible repeat (first|apply Kd.R_alloc|apply Kd.R_drewN|apply Kd.R_drew));exact HO357.out) hb);have n5_:=Aside0.mk (Kd.R_below (by (with_reducible repeat (first|apply Kd.R_alloc|apply Kd.R_drewN|apply Kd.R_drew));exact HO361.out) hb);have n6_:=Aside0.mk (Kd.R_lower (Kd.R_new' (Kd.R_new' ho0 (Kd.R_lt (by (with_reducible repeat (first|apply Kd.R_alloc|apply Kd.R_drewN|apply Kd.R_drew));exact HO343.out))) (Kd.R_lt (by (with_reducible repeat (first|apply Kd.R_alloc|apply Kd.R_drewN|apply Kd.R_drew));exact HO353.out))) (below_size (by repeat (first|(with_reducible first|exact HB.out|apply below_alloc|apply pw_below_drewN|apply below_drew1|refine below_set ?_ GE338.out|refine below_set ?_ GE358.out)|exact HB.out))));have n7_:=Aside0.mk (blk_below (g:=gb338) (o:=.cells #[.int .i64 a1_0,.slice A1_1 l1_1.length c1_1] 25 (0,0)) (by (with_reducible repeat (first|refine blk_drewN ?_ _|refine blk_drew ?_|refine blk_alloc ?_ _));exact BK338.out) hb);have n8_:=Aside0.mk (blk_below (g:=gb358) (o:=.cells #[.int .i64 t354,.slice Ao121 t355.length co121] 30 (0,0)) (by (with_reducible repeat (first|refine blk_drewN ?_ _|refine blk_drew ?_|refine blk_alloc ?_ _));exact BK358.out) hb);have n9_:=Aside0.mk (below_step (by repeat (first|(with_reducible first|exact HB.out|apply below_alloc|apply pw_below_drewN|apply below_drew1|refine below_set ?_ GE338.out|refine below_set ?_ GE358.out)|exact HB.out)) hb);clear HO343 HO347 HO350 HO353 HO357 HO361 BK338 BK358 HB;have HO343:=n0_;have HO347:=n1_;have HO350:=n2_;have HO353:=n3_;have HO357:=n4_;have HO361:=n5_;have HO365:=n6_;have BK338:=n7_;have BK358:=n8_;have HB:=n9_;clear n0_ n1_ n2_ n3_ n4_ n5_ n6_ n7_ n8_ n9_;(try clear hb);(try clear hb2);(try clear hk);(try clear hi);(try clear ho0);obtain ⟨Ao127,co127,eo127⟩:=Kd.R_slice HO365.out;subst eo127)|((with_reducible refine gate_callee (f:=22) rfl ?_);refine goesL_ (some 43) rfl rfl Tryd.func22 (by kernel_rfl) rfl #[.slice Ao122 t351.length co122,.slice Ao127 t363.length co127] rfl (by (try simp only [List.map_toArray,List.map_cons,List.map_nil]);first|done|rfl|(simp only [List.length_drop,List.length_take];rfl)) ?_;(with_reducible refine (laws_eqStringS.calls k _ _ t351 _ _ t363 true _ ?side1 ?side2 ?side3 ?side4 A20.out).mono ?_);(case side1 => repeat (first|exact (Kd.R_reads' HO353.out).2.2|(with_reducible first|refine Kd.C_alloc ?_ _|refine Kd.C_drewN ?_ _|refine Kd.C_drew ?_)));(case side2 => exact (Kd.R_reads' HO353.out).2.1);(case side3 => repeat (first|exact (Kd.R_reads' HO365.out).2.2|(with_reducible first|refine Kd.C_alloc ?_ _|refine Kd.C_drewN ?_ _|refine Kd.C_drew ?_)));(case side4 => exact (Kd.R_reads' HO365.out).2.1);rintro e w' ⟨rfl,⟨nd,rfl⟩⟩;refine ⟨_,rfl,?_⟩))
      (try (rw [drewN_self w126];generalize hq_ : World.drewN w126 _ = w126;have n0_ : Aside0 (Kd.R Kd.string 9 w126 w.heap.size (fun k_ => some k_≠(.slice Ao122 t351.length co122 : Value).ownBlock∧some k_≠(.slice Ao127 t363.length co127 : Value).ownBlock) (.slice Ao112 t341.length co112) t341):=⟨by rw [← hq_];exact (by (with_reducible repeat (first|apply Kd.R_alloc|apply Kd.R_drewN|apply Kd.R_drew));exact Kd.R_mono HO343.out (fun _ hk => ⟨hk.1.2,hk.2⟩))⟩;have n1_ : Aside0 (Kd.R (Kd.int .i64) 2 w126 w.heap.size (fun k_ => some k_≠(.slice Ao125 t348.length co125 : Value).ownBlock∧some k_≠(.slice Ao121 t355.length co121 : Value).ownBlock∧some k_≠(.slice Ao124 t359.length co124 : Value).ownBlock) (.slice Ao113 t345.length co113) t345):=⟨by rw [← hq_];exact (by (with_reducible repeat (first|apply Kd.R_alloc|apply Kd.R_drewN|apply Kd.R_drew));exact Kd.R_mono HO347.out (fun _ hk => ⟨hk.1.1.2,⟨hk.1.2,hk.2⟩⟩))⟩;have n2_ : Aside0 (Kd.R (Kd.int .i64) 2 w126 w.heap.size (fun k_ => some k_≠(.slice Ao113 t345.length co113 : Value).ownBlock∧some k_≠(.slice Ao121 t355.length co121 : Value).ownBlock∧some k_≠(.slice Ao124 t359.length co124 : Value).ownBlock) (.slice Ao125 t348.length co125) t348):=⟨by rw [← hq_];exact (by (with_reducible repeat (first|apply Kd.R_alloc|apply Kd.R_drewN|apply Kd.R_drew));exact Kd.R_mono HO350.out (fun _ hk => ⟨hk.1.1.2,⟨hk.1.2,hk.2⟩⟩))⟩;have n3_ : Aside0 (Kd.R Kd.string 9 w126 w.heap.size (fun k_ => some k_≠(.slice Ao112 t341.length co112 : Value).ownBlock∧some k_≠(.slice Ao127 t363.length co127 : Value).ownBlock) (.slice Ao122 t351.length co122) t351):=⟨by rw [← hq_];exact (by (with_reducible repeat (first|apply Kd.R_alloc|apply Kd.R_drewN|apply Kd.R_drew));exact Kd.R_mono HO353.out (fun _ hk => ⟨hk.1.2,hk.2⟩))⟩;have n4_ : Aside0 (Kd.R (Kd.int .i64) 2 w126 w.heap.size (fun k_ => some k_≠(.slice Ao113 t345.length co113 : Value).ownBlock∧some k_≠(.slice Ao125 t348.length co125 : Value).ownBlock∧some k_≠(.slice Ao124 t359.length co124 : Value).ownBlock) (.slice Ao121 t355.length co121) t355):=⟨by rw [← hq_];exact (by (with_reducible repeat (first|apply Kd.R_alloc|apply Kd.R_drewN|apply Kd.R_drew));exact Kd.R_mono HO357.out (fun _ hk => ⟨hk.1.1.2,⟨hk.1.2,hk.2⟩⟩))⟩;have n5_ : Aside0 (Kd.R (Kd.int .i64) 2 w126 w.heap.size (fun k_ => some k_≠(.slice Ao113 t345.length co113 : Value).ownBlock∧some k_≠(.slice Ao125 t348.length co125 : Value).ownBlock∧some k_≠(.slice Ao121 t355.length co121 : Value).ownBlock) (.slice Ao124 t359.length co124) t359):=⟨by rw [← hq_];exact (by (with_reducible repeat (first|apply Kd.R_alloc|apply Kd.R_drewN|apply Kd.R_drew));exact Kd.R_mono HO361.out (fun _ hk => ⟨hk.1.1.2,⟨hk.1.2,hk.2⟩⟩))⟩;have n6_ : Aside0 (Kd.R Kd.string 9 w126 w.heap.size (fun k_ => some k_≠(.slice Ao112 t341.length co112 : Value).ownBlock∧some k_≠(.slice Ao122 t351.length co122 : Value).ownBlock) (.slice Ao127 t363.length co127) t363):=⟨by rw [← hq_];exact (by (with_reducible repeat (first|apply Kd.R_alloc|apply Kd.R_drewN|apply Kd.R_drew));exact Kd.R_mono HO365.out (fun _ hk => ⟨hk.1.2,hk.2⟩))⟩;have n7_ : Aside0 (w126.heap[gb338]? = some (.cells #[.int .i64 a1_0,.slice A1_1 l1_1.length c1_1] 25 (0,0))):=⟨by rw [← hq_];exact (by (with_reducible repeat (first|refine blk_drewN ?_ _|refine blk_drew ?_|refine blk_alloc ?_ _));exact BK338.out)⟩;have n8_ : Aside0 (w126.heap[gb358]? = some (.cells #[.int .i64 t354,.slice Ao121 t355.length co121] 30 (0,0))):=⟨by rw [← hq_];exact (by (with_reducible repeat (first|refine blk_drewN ?_ _|refine blk_drew ?_|refine blk_alloc ?_ _));exact BK358.out)⟩;have n9_ : Aside0 (Below w.heap.size w w126):=⟨by rw [← hq_];exact (by repeat (first|(with_reducible first|exact HB.out|apply below_alloc|apply pw_below_drewN|apply below_drew1|refine below_set ?_ GE338.out|refine below_set ?_ GE358.out)|exact HB.out))⟩;clear HO343 HO347 HO350 HO353 HO357 HO361 HO365 BK338 BK358 HB hq_;have HO343:=n0_;have HO347:=n1_;have HO350:=n2_;have HO353:=n3_;have HO357:=n4_;have HO361:=n5_;have HO365:=n6_;have BK338:=n7_;have BK358:=n8_;have HB:=n9_;clear n0_ n1_ n2_ n3_ n4_ n5_ n6_ n7_ n8_ n9_))
      have n0_:=Aside0.mk (Kd.R_drew HO343.out)
      have n1_:=Aside0.mk (Kd.R_drew HO347.out)
      have n2_:=Aside0.mk (Kd.R_drew HO350.out)
      have n3_:=Aside0.mk (Kd.R_drew HO353.out)
      have n4_:=Aside0.mk (Kd.R_drew HO357.out)
      have n5_:=Aside0.mk (Kd.R_drew HO361.out)
      have n6_:=Aside0.mk (Kd.R_drew HO365.out)
      have n7_:=Aside0.mk (blk_drew BK338.out)
      have n8_:=Aside0.mk (blk_drew BK358.out)
      have n9_:=Aside0.mk (below_drew1 HB.out)
      clear HO343
      clear HO347
      clear HO350
      clear HO353
      clear HO357
      clear HO361
      clear HO365
      clear BK338
      clear BK358
      clear HB
      have HO343:=n0_
      have HO347:=n1_
      have HO350:=n2_
      have HO353:=n3_
      have HO357:=n4_
      have HO361:=n5_
      have HO365:=n6_
      have BK338:=n7_
      have BK358:=n8_
      have HB:=n9_
      clear n0_ n1_ n2_ n3_ n4_ n5_ n6_ n7_ n8_ n9_
      refine start_ (n:=5) (S:=fun w' => w'.cell? ⟨gb358,0,none⟩ = some (.int .i64 t354)∧w'.cell? ⟨gb358,1,none⟩ = some (.slice Ao121 t355.length co121)∧w'.cell? ⟨gb338,0,none⟩ = some (.int .i64 a1_0)∧w'.cell? ⟨gb338,1,none⟩ = some (.slice A1_1 l1_1.length c1_1)) (ds:=[]) #[false,false,false,false,false] (by kernel_rfl) rfl rfl ⟨(blk_cell BK358.out 0).trans rfl,(blk_cell BK358.out 1).trans rfl,(blk_cell BK338.out 0).trans rfl,(blk_cell BK338.out 1).trans rfl⟩ (fun hHeld => ?_)
      generalize w126.drew = w128 at HO343 HO347 HO350 HO353 HO357 HO361 HO365 BK338 BK358 HB hHeld ⊢
      refine take_ (i:=0) (N:=some 45) (v:=?_) (a':=?_) #[true,false,false,false,false] rfl rfl (by kernel_rfl) (fun _ _ _ h => h) (Or.inl ⟨by rfl,?_⟩) hHeld ?_ ?_
      rotate_left
      ·rintro w' ⟨s0,s1,s2,s3⟩
       go_simp
       with_reducible rfl
      rotate_left
      ·simp only [Act.put,List.setIfInBounds_toArray,List.set_cons_zero,List.set_cons_succ,i64_w,i32_w]
       rfl
      refine take_ (i:=1) (N:=some 46) (v:=?_) (a':=?_) #[true,true,false,false,false] rfl rfl (by kernel_rfl) (fun _ _ _ h => h) (Or.inl ⟨by rfl,?_⟩) hHeld ?_ ?_
      rotate_left
      ·rintro w' ⟨s0,s1,s2,s3⟩
       go_simp
       with_reducible rfl
      rotate_left
      ·simp only [Act.put,List.setIfInBounds_toArray,List.set_cons_zero,List.set_cons_succ,i64_w,i32_w]
       rfl
      refine one_ (i:=2) (N:=some 47) #[true,true,true,false,false] rfl rfl (by kernel_rfl) (by decide) (fun K hK => ?_)
      refine goes_ Tryd.func20 (by kernel_rfl) rfl #[.agg #[.int .i64 a1_0,.slice A1_1 l1_1.length c1_1]] (by rfl) rfl rfl (by (try simp only [List.map_toArray,List.map_cons,List.map_nil]);first|done|rfl|(simp only [List.length_drop,List.length_take];rfl)) ?_
      with_reducible refine (laws_toNursery.calls k a1_0 _ _ l1_1 t367 t368 _ ?side1 ?side2 A22.out).mono ?_
      (case side1 => repeat (first|exact (Kd.C_below HR1_1.out HB.out)|(with_reducible first|refine Kd.C_alloc ?_ _|refine Kd.C_drewN ?_ _|refine Kd.C_drew ?_)))
      (case side2 => exact HC1_1.out)
      rintro e w129 ⟨v369,rfl,ho0,hb⟩
      refine ⟨_,rfl,?_⟩
      have n0_:=Aside0.mk (Kd.R_below (by (with_reducible repeat (first|apply Kd.R_alloc|apply Kd.R_drewN|apply Kd.R_drew));exact HO343.out) hb)
      have n1_:=Aside0.mk (Kd.R_elder' (by (with_reducible repeat (first|apply Kd.R_alloc|apply Kd.R_drewN|apply Kd.R_drew));exact HO347.out) (Kd.R_base ho0) hb)
      have n2_:=Aside0.mk (Kd.R_elder' (by (with_reducible repeat (first|apply Kd.R_alloc|apply Kd.R_drewN|apply Kd.R_drew));exact HO350.out) (Kd.R_base ho0) hb)
      have n3_:=Aside0.mk (Kd.R_below (by (with_reducible repeat (first|apply Kd.R_alloc|apply Kd.R_drewN|apply Kd.R_drew));exact HO353.out) hb)
      have n4_:=Aside0.mk (Kd.R_elder' (by (with_reducible repeat (first|apply Kd.R_alloc|apply Kd.R_drewN|apply Kd.R_drew));exact HO357.out) (Kd.R_base ho0) hb)
      have n5_:=Aside0.mk (Kd.R_elder' (by (with_reducible repeat (first|apply Kd.R_alloc|apply Kd.R_drewN|apply Kd.R_drew));exact HO361.out) (Kd.R_base ho0) hb)
      have n6_:=Aside0.mk (Kd.R_below (by (with_reducible repeat (first|apply Kd.R_alloc|apply Kd.R_drewN|apply Kd.R_drew));exact HO365.out) hb)
      have n7_:=Aside0.mk (Kd.R_lower (Kd.R_new' (Kd.R_new' (Kd.R_new' (Kd.R_new' ho0 (Kd.R_lt (by (with_reducible repeat (first|apply Kd.R_alloc|apply Kd.R_drewN|apply Kd.R_drew));exact HO347.out))) (Kd.R_lt (by (with_reducible repeat (first|apply Kd.R_alloc|apply Kd.R_drewN|apply Kd.R_drew));exact HO350.out))) (Kd.R_lt (by (with_reducible repeat (first|apply Kd.R_alloc|apply Kd.R_drewN|apply Kd.R_drew));exact HO357.out))) (Kd.R_lt (by (with_reducible repeat (first|apply Kd.R_alloc|apply Kd.R_drewN|apply Kd.R_drew));exact HO361.out))) (below_size (by repeat (first|(with_reducible first|exact HB.out|apply below_alloc|apply pw_below_drewN|apply below_drew1|refine below_set ?_ GE338.out|refine below_set ?_ GE358.out)|exact HB.out))))
      have n8_:=Aside0.mk (blk_below (g:=gb338) (o:=.cells #[.int .i64 a1_0,.slice A1_1 l1_1.length c1_1] 25 (0,0)) (by (with_reducible repeat (first|refine blk_drewN ?_ _|refine blk_drew ?_|refine blk_alloc ?_ _));exact BK338.out) hb)
      have n9_:=Aside0.mk (blk_below (g:=gb358) (o:=.cells #[.int .i64 t354,.slice Ao121 t355.length co121] 30 (0,0)) (by (with_reducible repeat (first|refine blk_drewN ?_ _|refine blk_drew ?_|refine blk_alloc ?_ _));exact BK358.out) hb)
      have n10_:=Aside0.mk (below_step (by repeat (first|(with_reducible first|exact HB.out|apply below_alloc|apply pw_below_drewN|apply below_drew1|refine below_set ?_ GE338.out|refine below_set ?_ GE358.out)|exact HB.out)) hb)
      clear HO343
      clear HO347
      clear HO350
      clear HO353
      clear HO357
      clear HO361
      clear HO365
      clear BK338
      clear BK358
      clear HB
      have HO343:=n0_
      have HO347:=n1_
      have HO350:=n2_
      have HO353:=n3_
      have HO357:=n4_
      have HO361:=n5_
      have HO365:=n6_
      have HO370:=n7_
      have BK338:=n8_
      have BK358:=n9_
      have HB:=n10_
      clear n0_ n1_ n2_ n3_ n4_ n5_ n6_ n7_ n8_ n9_ n10_
      (try clear hb)
      (try clear hb2)
      (try clear hk)
      (try clear hi)
      (try clear ho0)
      obtain ⟨Ao130,co130,eo130⟩:=Kd.R_slice HO370.out
      (first|subst eo130|(injection eo130 with f1_ f2_ f3_;have f4_:=f1_.symm;have f5_:=f3_.symm;clear f1_ f2_ f3_;subst f4_;subst f5_))
      refine hK.out _ _ ⟨(blk_cell BK358.out 0).trans rfl,(blk_cell BK358.out 1).trans rfl,(blk_cell BK338.out 0).trans rfl,(blk_cell BK338.out 1).trans rfl⟩ (fun hHeld => ?_)
      clear hK K
      refine norm_ (a':=?_) ?_ ?_
      rotate_left
      ·show Act.put _ (some 47) _ = _
       simp only [Act.put,List.setIfInBounds_toArray,List.set_cons_zero,List.set_cons_succ,i64_w,i32_w]
       rfl
      refine one_ (i:=3) (N:=some 48) #[true,true,true,true,false] rfl rfl (by kernel_rfl) (by decide) (fun K hK => ?_)
      refine goes_ Tryd.func23 (by kernel_rfl) rfl #[.agg #[.int .i64 t354,.slice Ao121 t355.length co121],.agg #[.int .i64 t367,.slice Ao130 t368.length co130]] (by rfl) rfl rfl (by (try simp only [List.map_toArray,List.map_cons,List.map_nil]);first|done|rfl|(simp only [List.length_drop,List.length_take];rfl)) ?_
      with_reducible refine (laws_eqNursery.calls k t354 _ _ t355 t367 _ _ t368 false _ ?side1 ?side2 ?side3 ?side4 A23.out).mono ?_
      (case side1 => repeat (first|exact (Kd.R_reads' HO357.out).2.2|(with_reducible first|refine Kd.C_alloc ?_ _|refine Kd.C_drewN ?_ _|refine Kd.C_drew ?_)))
      (case side2 => exact (Kd.R_reads' HO357.out).2.1)
      (case side3 => repeat (first|exact (Kd.R_reads' HO370.out).2.2|(with_reducible first|refine Kd.C_alloc ?_ _|refine Kd.C_drewN ?_ _|refine Kd.C_drew ?_)))
      (case side4 => exact (Kd.R_reads' HO370.out).2.1)
      rintro e w131 ⟨rfl,hb⟩
      refine ⟨_,rfl,?_⟩
      have n0_:=Aside0.mk (Kd.R_below (by (with_reducible repeat (first|apply Kd.R_alloc|apply Kd.R_drewN|apply Kd.R_drew));exact HO343.out) hb)
      have n1_:=Aside0.mk (Kd.R_below (by (with_reducible repeat (first|apply Kd.R_alloc|apply Kd.R_drewN|apply Kd.R_drew));exact HO347.out) hb)
      have n2_:=Aside0.mk (Kd.R_below (by (with_reducible repeat (first|apply Kd.R_alloc|apply Kd.R_drewN|apply Kd.R_drew));exact HO350.out) hb)
      have n3_:=Aside0.mk (Kd.R_below (by (with_reducible repeat (first|apply Kd.R_alloc|apply Kd.R_drewN|apply Kd.R_drew));exact HO353.out) hb)
      have n4_:=Aside0.mk (Kd.R_below (by (with_reducible repeat (first|apply Kd.R_alloc|apply Kd.R_drewN|apply Kd.R_drew));exact HO357.out) hb)
      have n5_:=Aside0.mk (Kd.R_below (by (with_reducible repeat (first|apply Kd.R_alloc|apply Kd.R_drewN|apply Kd.R_drew));exact HO361.out) hb)
      have n6_:=Aside0.mk (Kd.R_below (by (with_reducible repeat (first|apply Kd.R_alloc|apply Kd.R_drewN|apply Kd.R_drew));exact HO365.out) hb)
      have n7_:=Aside0.mk (Kd.R_below (by (with_reducible repeat (first|apply Kd.R_alloc|apply Kd.R_drewN|apply Kd.R_drew));exact HO370.out) hb)
      have n8_:=Aside0.mk (blk_below (g:=gb338) (o:=.cells #[.int .i64 a1_0,.slice A1_1 l1_1.length c1_1] 25 (0,0)) (by (with_reducible repeat (first|refine blk_drewN ?_ _|refine blk_drew ?_|refine blk_alloc ?_ _));exact BK338.out) hb)
      have n9_:=Aside0.mk (blk_below (g:=gb358) (o:=.cells #[.int .i64 t354,.slice Ao121 t355.length co121] 30 (0,0)) (by (with_reducible repeat (first|refine blk_drewN ?_ _|refine blk_drew ?_|refine blk_alloc ?_ _));exact BK358.out) hb)
      have n10_:=Aside0.mk (below_step (by repeat (first|(with_reducible first|exact HB.out|apply below_alloc|apply pw_below_drewN|apply below_drew1|refine below_set ?_ GE338.out|refine below_set ?_ GE358.out)|exact HB.out)) hb)
      clear HO343
      clear HO347
      clear HO350
      clear HO353
      clear HO357
      clear HO361
      clear HO365
      clear HO370
      clear BK338
      clear BK358
      clear HB
      have HO343:=n0_
      have HO347:=n1_
      have HO350:=n2_
      have HO353:=n3_
      have HO357:=n4_
      have HO361:=n5_
      have HO365:=n6_
      have HO370:=n7_
      have BK338:=n8_
      have BK358:=n9_
      have HB:=n10_
      clear n0_ n1_ n2_ n3_ n4_ n5_ n6_ n7_ n8_ n9_ n10_
      (try clear hb)
      (try clear hb2)
      (try clear hk)
      (try clear hi)
      refine hK.out _ _ ⟨(blk_cell BK358.out 0).trans rfl,(blk_cell BK358.out 1).trans rfl,(blk_cell BK338.out 0).trans rfl,(blk_cell BK338.out 1).trans rfl⟩ (fun hHeld => ?_)
      clear hK K
      refine norm_ (a':=?_) ?_ ?_
      rotate_left
      ·show Act.put _ (some 48) _ = _
       simp only [Act.put,List.setIfInBounds_toArray,List.set_cons_zero,List.set_cons_succ,i64_w,i32_w]
       rfl
      refine pure_ (i:=4) (N:=some 49) (v:=?_) (a':=?_) #[true,true,true,true,true] rfl rfl (by kernel_rfl) (fun _ _ _ h => h) (Or.inl ⟨by rfl,?_⟩) ?_ ?_
      rotate_left
      ·intro w'
       go_simp
       with_reducible rfl
      rotate_left
      ·simp only [Act.put,List.setIfInBounds_toArray,List.set_cons_zero,List.set_cons_succ,i64_w,i32_w]
       rfl
      refine done_ (by kernel_rfl) ?_
      try go_wp2
      go_ret
      exact ⟨by first|rfl|(simp [errW_none,errW_some] <;> rfl)|(simp [*,errW_none,errW_some] <;> rfl),by repeat (first|(with_reducible first|exact HB.out|apply below_alloc|apply pw_below_drewN|apply below_drew1|refine below_set ?_ GE338.out|refine below_set ?_ GE358.out)|exact HB.out)⟩
    ·replace c21:=Bool.eq_false_iff.mpr c21
     subst c21
     have H1 : (some false) = some r:=by rw [if_neg (show ¬ (false = true) by decide)] at H;exact H
     clear H
     have H:=H1
     clear H1
     obtain rfl:=Option.some.inj H
     go_enter Tryd.func5,Tryd.ntmps5
     try go_wp2_with (first|((with_reducible refine gate_dst (N:=3) rfl ?_);refine box_event ?hg (N:=3) ?hd (cs:=#[.int .i64 a1_0,.slice A1_1 l1_1.length c1_1]) (t:=25) ?hr ?_;(case hd => rfl);(case hg => rfl);(case hr => first|(go_simp;done)|(go_simp;rfl));intro gb338 hg w132 hbox hb;have n0_:=Aside0.mk (below_step (by repeat (first|(with_reducible first|exact HB.out|apply below_alloc|apply pw_below_drewN|apply below_drew1)|exact HB.out)) hb);have n1_:=Aside0.mk (hbox);have n2_:=Aside0.mk ((by rw [hg];exact (below_size (by repeat (first|(with_reducible first|exact HB.out|apply below_alloc|apply pw_below_drewN|apply below_drew1)|exact HB.out))) : w.heap.size ≤ gb338));have n3_:=Aside0.mk ((by rw [hg];exact (below_size (by repeat (first|(with_reducible first|exact HB.out|apply below_alloc|apply pw_below_drewN|apply below_drew1)|exact HB.out))) : w.heap.size ≤ gb338));clear HB;have HB:=n0_;have BK338:=n1_;have GW338:=n2_;have GE338:=n3_;clear n0_ n1_ n2_ n3_;clear hb hbox hg)|((with_reducible refine gate_callee (f:=16) rfl ?_);refine goesL_ (some 16) rfl rfl Tryd.func16 (by kernel_rfl) rfl #[.slice A0 l0.length c0,.int .i64 1048576] rfl (by (try simp only [List.map_toArray,List.map_cons,List.map_nil]);first|done|rfl|(simp only [List.length_drop,List.length_take];rfl)) ?_;(with_reducible refine (laws_szStringS.calls k _ _ l0 1048576 t339 _ ?side1 ?side2 A3.out).mono ?_);(case side1 => repeat (first|exact (Kd.C_below HR0.out HB.out)|(with_reducible first|refine Kd.C_alloc ?_ _|refine Kd.C_drewN ?_ _|refine Kd.C_drew ?_)));(case side2 => exact HC0.out);rintro e w' ⟨rfl,⟨nd,rfl⟩⟩;refine ⟨_,rfl,?_⟩;(try (rw [drewN_self w132];generalize hq_ : World.drewN w132 _ = w132;have n0_ : Aside0 (w132.heap[gb338]? = some (.cells #[.int .i64 a1_0,.slice A1_1 l1_1.length c1_1] 25 (0,0))):=⟨by rw [← hq_];exact (by (with_reducible repeat (first|refine blk_drewN ?_ _|refine blk_drew ?_|refine blk_alloc ?_ _));exact BK338.out)⟩;have n1_ : Aside0 (Below w.heap.size w w132):=⟨by rw [← hq_];exact (by repeat (first|(with_reducible first|exact HB.out|apply below_alloc|apply pw_below_drewN|apply below_drew1|refine below_set ?_ GE338.out)|exact HB.out))⟩;clear BK338 HB hq_;have BK338:=n0_;have HB:=n1_;clear n0_ n1_));have hcz133_0 : w132.cell? ⟨gb338,0,none⟩ = some (.int .i64 a1_0):=(blk_cell BK338.out 0).trans rfl;have hcz133_1 : w132.cell? ⟨gb338,1,none⟩ = some (.slice A1_1 l1_1.length c1_1):=(blk_cell BK338.out 1).trans rfl;have hfz133_0:=blk_frozen BK338.out 0;have hfz133_1:=blk_frozen BK338.out 1)|((with_reducible refine gate_callee (f:=17) rfl ?_);refine goesL_ (some 21) rfl rfl Tryd.func17 (by kernel_rfl) rfl #[.agg #[.int .i64 a1_0,.slice A1_1 l1_1.length c1_1],.int .i64 t339] rfl (by (try simp only [List.map_toArray,List.map_cons,List.map_nil]);first|done|rfl|(simp only [List.length_drop,List.length_take];rfl)) ?_;(with_reducible refine (laws_szNursery.calls a1_0 _ _ l1_1 t339 t340 _ ?side1 ?side2 A6.out).mono ?_);(case side1 => repeat (first|exact (Kd.C_below HR1_1.out HB.out)|(with_reducible first|refine Kd.C_alloc ?_ _|refine Kd.C_drewN ?_ _|refine Kd.C_drew ?_)));(case side2 => exact HC1_1.out);rintro e w134 ⟨rfl,hb⟩;refine ⟨_,rfl,?_⟩;have n0_:=Aside0.mk (blk_below (g:=gb338) (o:=.cells #[.int .i64 a1_0,.slice A1_1 l1_1.length c1_1] 25 (0,0)) (by (with_reducible repeat (first|refine blk_drewN ?_ _|refine blk_drew ?_|refine blk_alloc ?_ _));exact BK338.out) hb);have n1_:=Aside0.mk (below_step (by repeat (first|(with_reducible first|exact HB.out|apply below_alloc|apply pw_below_drewN|apply below_drew1|refine below_set ?_ GE338.out)|exact HB.out)) hb);clear BK338 HB;have BK338:=n0_;have HB:=n1_;clear n0_ n1_;(try clear hb);(try clear hb2);(try clear hk);(try clear hi)))
     have n0_:=Aside0.mk (blk_drew BK338.out)
     have n1_:=Aside0.mk (below_drew1 HB.out)
     clear BK338
     clear HB
     have BK338:=n0_
     have HB:=n1_
     clear n0_ n1_
     refine start_ (n:=6) (S:=fun w' => w'.cell? ⟨gb338,0,none⟩ = some (.int .i64 a1_0)∧w'.cell? ⟨gb338,1,none⟩ = some (.slice A1_1 l1_1.length c1_1)) (ds:=[]) #[false,false,false,false,false,false] (by kernel_rfl) rfl rfl ⟨(blk_cell BK338.out 0).trans rfl,(blk_cell BK338.out 1).trans rfl⟩ (fun hHeld => ?_)
     generalize w134.drew = w135 at BK338 HB hHeld ⊢
     refine pure_ (i:=0) (N:=some 24) (v:=?_) (a':=?_) #[true,false,false,false,false,false] rfl rfl (by kernel_rfl) (fun _ _ _ h => h) (Or.inl ⟨by rfl,?_⟩) ?_ ?_
     rotate_left
     ·intro w'
      go_simp
      with_reducible rfl
     rotate_left
     ·simp only [Act.put,List.setIfInBounds_toArray,List.set_cons_zero,List.set_cons_succ,i64_w,i32_w]
      rfl
     refine take_ (i:=2) (N:=some 26) (v:=?_) (a':=?_) #[true,false,true,false,false,false] rfl rfl (by kernel_rfl) (fun _ _ _ h => h) (Or.inl ⟨by rfl,?_⟩) hHeld ?_ ?_
     rotate_left
     ·rintro w' ⟨s0,s1⟩
      go_simp
      with_reducible rfl
     rotate_left
     ·simp only [Act.put,List.setIfInBounds_toArray,List.set_cons_zero,List.set_cons_succ,i64_w,i32_w]
      rfl
     refine one_ (i:=1) (N:=some 25) #[true,true,true,false,false,false] rfl rfl (by kernel_rfl) (by decide) (fun K hK => ?_)
     refine goes_ Tryd.func19 (by kernel_rfl) rfl #[.slice A0 l0.length c0] (by rfl) rfl rfl (by (try simp only [List.map_toArray,List.map_cons,List.map_nil]);first|done|rfl|(simp only [List.length_drop,List.length_take];rfl)) ?_
     with_reducible refine (laws_toStringS.calls k _ _ l0 t341 _ ?side1 ?side2 A11.out).mono ?_
     (case side1 => repeat (first|exact (Kd.C_below HR0.out HB.out)|(with_reducible first|refine Kd.C_alloc ?_ _|refine Kd.C_drewN ?_ _|refine Kd.C_drew ?_)))
     (case side2 => exact HC0.out)
     rintro e w136 ⟨v342,rfl,ho0,hb⟩
     refine ⟨_,rfl,?_⟩
     have n0_:=Aside0.mk (Kd.R_lower ho0 (below_size (by repeat (first|(with_reducible first|exact HB.out|apply below_alloc|apply pw_below_drewN|apply below_drew1|refine below_set ?_ GE338.out)|exact HB.out))))
     have n1_:=Aside0.mk (blk_below (g:=gb338) (o:=.cells #[.int .i64 a1_0,.slice A1_1 l1_1.length c1_1] 25 (0,0)) (by (with_reducible repeat (first|refine blk_drewN ?_ _|refine blk_drew ?_|refine blk_alloc ?_ _));exact BK338.out) hb)
     have n2_:=Aside0.mk (below_step (by repeat (first|(with_reducible first|exact HB.out|apply below_alloc|apply pw_below_drewN|apply below_drew1|refine below_set ?_ GE338.out)|exact HB.out)) hb)
     clear BK338
     clear HB
     have HO343:=n0_
     have BK338:=n1_
     have HB:=n2_
     clear n0_ n1_ n2_
     (try clear hb)
     (try clear hb2)
     (try clear hk)
     (try clear hi)
     (try clear ho0)
     refine hK.out _ _ ⟨(blk_cell BK338.out 0).trans rfl,(blk_cell BK338.out 1).trans rfl⟩ (fun hHeld => ?_)
     clear hK K
     refine norm_ (a':=?_) ?_ ?_
     rotate_left
     ·show Act.put _ (some 25) _ = _
      simp only [Act.put,List.setIfInBounds_toArray,List.set_cons_zero,List.set_cons_succ,i64_w,i32_w]
      rfl
     refine one_ (i:=3) (N:=some 27) #[true,true,true,true,false,false] rfl rfl (by kernel_rfl) (by decide) (fun K hK => ?_)
     refine goes_ Tryd.func20 (by kernel_rfl) rfl #[.agg #[.int .i64 a1_0,.slice A1_1 l1_1.length c1_1]] (by rfl) rfl rfl (by (try simp only [List.map_toArray,List.map_cons,List.map_nil]);first|done|rfl|(simp only [List.length_drop,List.length_take];rfl)) ?_
     with_reducible refine (laws_toNursery.calls k a1_0 _ _ l1_1 t344 t345 _ ?side1 ?side2 A12.out).mono ?_
     (case side1 => repeat (first|exact (Kd.C_below HR1_1.out HB.out)|(with_reducible first|refine Kd.C_alloc ?_ _|refine Kd.C_drewN ?_ _|refine Kd.C_drew ?_)))
     (case side2 => exact HC1_1.out)
     rintro e w137 ⟨v346,rfl,ho0,hb⟩
     refine ⟨_,rfl,?_⟩
     have n0_:=Aside0.mk (Kd.R_below (by (with_reducible repeat (first|apply Kd.R_alloc|apply Kd.R_drewN|apply Kd.R_drew));exact HO343.out) hb)
     have n1_:=Aside0.mk (Kd.R_lower ho0 (below_size (by repeat (first|(with_reducible first|exact HB.out|apply below_alloc|apply pw_below_drewN|apply below_drew1|refine below_set ?_ GE338.out)|exact HB.out))))
     have n2_:=Aside0.mk (blk_below (g:=gb338) (o:=.cells #[.int .i64 a1_0,.slice A1_1 l1_1.length c1_1] 25 (0,0)) (by (with_reducible repeat (first|refine blk_drewN ?_ _|refine blk_drew ?_|refine blk_alloc ?_ _));exact BK338.out) hb)
     have n3_:=Aside0.mk (below_step (by repeat (first|(with_reducible first|exact HB.out|apply below_alloc|apply pw_below_drewN|apply below_drew1|refine below_set ?_ GE338.out)|exact HB.out)) hb)
     clear HO343
     clear BK338
     clear HB
     have HO343:=n0_
     have HO347:=n1_
     have BK338:=n2_
     have HB:=n3_
     clear n0_ n1_ n2_ n3_
     (try clear hb)
     (try clear hb2)
     (try clear hk)
     (try clear hi)
     (try clear ho0)
     obtain ⟨Ao138,co138,eo138⟩:=Kd.R_slice HO343.out
     (first|subst eo138|(injection eo138 with f1_ f2_ f3_;have f4_:=f1_.symm;have f5_:=f3_.symm;clear f1_ f2_ f3_;subst f4_;subst f5_))
     obtain ⟨Ao139,co139,eo139⟩:=Kd.R_slice HO347.out
     (first|subst eo139|(injection eo139 with f1_ f2_ f3_;have f4_:=f1_.symm;have f5_:=f3_.symm;clear f1_ f2_ f3_;subst f4_;subst f5_))
     refine hK.out _ _ ⟨(blk_cell BK338.out 0).trans rfl,(blk_cell BK338.out 1).trans rfl⟩ (fun hHeld => ?_)
     clear hK K
     refine norm_ (a':=?_) ?_ ?_
     rotate_left
     ·show Act.put _ (some 27) _ = _
      simp only [Act.put,List.setIfInBounds_toArray,List.set_cons_zero,List.set_cons_succ,i64_w,i32_w]
      rfl
     refine one_ (i:=4) (N:=some 28) #[true,true,true,true,true,false] rfl rfl (by kernel_rfl) (by decide) (fun K hK => ?_)
     refine goes_ Tryd.func31 (by kernel_rfl) rfl #[.slice Ao138 t341.length co138,.agg #[.int .i64 t344,.slice Ao139 t345.length co139]] (by rfl) rfl rfl (by (try simp only [List.map_toArray,List.map_cons,List.map_nil]);first|done|rfl|(simp only [List.length_drop,List.length_take];rfl)) ?_
     with_reducible refine (spec_Ages.calls k _ _ t341 t344 _ _ t345 t348 _ ?side1 ?side2 ?side3 ?side4 A13.out).mono ?_
     (case side1 => repeat (first|exact (Kd.R_reads' HO343.out).2.2|(with_reducible first|refine Kd.C_alloc ?_ _|refine Kd.C_drewN ?_ _|refine Kd.C_drew ?_)))
     (case side2 => exact (Kd.R_reads' HO343.out).2.1)
     (case side3 => repeat (first|exact (Kd.R_reads' HO347.out).2.2|(with_reducible first|refine Kd.C_alloc ?_ _|refine Kd.C_drewN ?_ _|refine Kd.C_drew ?_)))
     (case side4 => exact (Kd.R_reads' HO347.out).2.1)
     rintro e w140 ⟨v349,rfl,ho0,hb⟩
     refine ⟨_,rfl,?_⟩
     have n0_:=Aside0.mk (Kd.R_below (by (with_reducible repeat (first|apply Kd.R_alloc|apply Kd.R_drewN|apply Kd.R_drew));exact HO343.out) hb)
     have n1_:=Aside0.mk (Kd.R_elder' (by (with_reducible repeat (first|apply Kd.R_alloc|apply Kd.R_drewN|apply Kd.R_drew));exact HO347.out) (Kd.R_base ho0) hb)
     have n2_:=Aside0.mk (Kd.R_lower (Kd.R_new' ho0 (Kd.R_lt (by (with_reducible repeat (first|apply Kd.R_alloc|apply Kd.R_drewN|apply Kd.R_drew));exact HO347.out))) (below_size (by repeat (first|(with_reducible first|exact HB.out|apply below_alloc|apply pw_below_drewN|apply below_drew1|refine below_set ?_ GE338.out)|exact HB.out))))
     have n3_:=Aside0.mk (blk_below (g:=gb338) (o:=.cells #[.int .i64 a1_0,.slice A1_1 l1_1.length c1_1] 25 (0,0)) (by (with_reducible repeat (first|refine blk_drewN ?_ _|refine blk_drew ?_|refine blk_alloc ?_ _));exact BK338.out) hb)
     have n4_:=Aside0.mk (below_step (by repeat (first|(with_reducible first|exact HB.out|apply below_alloc|apply pw_below_drewN|apply below_drew1|refine below_set ?_ GE338.out)|exact HB.out)) hb)
     clear HO343
     clear HO347
     clear BK338
     clear HB
     have HO343:=n0_
     have HO347:=n1_
     have HO350:=n2_
     have BK338:=n3_
     have HB:=n4_
     clear n0_ n1_ n2_ n3_ n4_
     (try clear hb)
     (try clear hb2)
     (try clear hk)
     (try clear hi)
     (try clear ho0)
     refine hK.out _ _ ⟨(blk_cell BK338.out 0).trans rfl,(blk_cell BK338.out 1).trans rfl⟩ (fun hHeld => ?_)
     clear hK K
     refine norm_ (a':=?_) ?_ ?_
     rotate_left
     ·show Act.put _ (some 28) _ = _
      simp only [Act.put,List.setIfInBounds_toArray,List.set_cons_zero,List.set_cons_succ,i64_w,i32_w]
      rfl
     refine pure_ (i:=5) (N:=some 6) (v:=?_) (a':=?_) #[true,true,true,true,true,true] rfl rfl (by kernel_rfl) (fun _ _ _ h => h) (Or.inl ⟨by rfl,?_⟩) ?_ ?_
     rotate_left
     ·intro w'
      go_simp
      with_reducible rfl
     rotate_left
     ·simp only [Act.put,List.setIfInBounds_toArray,List.set_cons_zero,List.set_cons_succ,i64_w,i32_w]
      rfl
     refine done_ (by kernel_rfl) ?_
     try go_wp2_with (first|((with_reducible refine gate_callee (f:=19) rfl ?_);refine goesL_ (some 30) rfl rfl Tryd.func19 (by kernel_rfl) rfl #[.slice A0 l0.length c0] rfl (by (try simp only [List.map_toArray,List.map_cons,List.map_nil]);first|done|rfl|(simp only [List.length_drop,List.length_take];rfl)) ?_;(with_reducible refine (laws_toStringS.calls k _ _ l0 t351 _ ?side1 ?side2 A14.out).mono ?_);(case side1 => repeat (first|exact (Kd.C_below HR0.out HB.out)|(with_reducible first|refine Kd.C_alloc ?_ _|refine Kd.C_drewN ?_ _|refine Kd.C_drew ?_)));(case side2 => exact HC0.out);rintro e w141 ⟨v352,rfl,ho0,hb⟩;refine ⟨_,rfl,?_⟩;have n0_:=Aside0.mk (Kd.R_elder' (by (with_reducible repeat (first|apply Kd.R_alloc|apply Kd.R_drewN|apply Kd.R_drew));exact HO343.out) (Kd.R_base ho0) hb);have n1_:=Aside0.mk (Kd.R_below (by (with_reducible repeat (first|apply Kd.R_alloc|apply Kd.R_drewN|apply Kd.R_drew));exact HO347.out) hb);have n2_:=Aside0.mk (Kd.R_below (by (with_reducible repeat (first|apply Kd.R_alloc|apply Kd.R_drewN|apply Kd.R_drew));exact HO350.out) hb);have n3_:=Aside0.mk (Kd.R_lower (Kd.R_new' ho0 (Kd.R_lt (by (with_reducible repeat (first|apply Kd.R_alloc|apply Kd.R_drewN|apply Kd.R_drew));exact HO343.out))) (below_size (by repeat (first|(with_reducible first|exact HB.out|apply below_alloc|apply pw_below_drewN|apply below_drew1|refine below_set ?_ GE338.out)|exact HB.out))));have n4_:=Aside0.mk (blk_below (g:=gb338) (o:=.cells #[.int .i64 a1_0,.slice A1_1 l1_1.length c1_1] 25 (0,0)) (by (with_reducible repeat (first|refine blk_drewN ?_ _|refine blk_drew ?_|refine blk_alloc ?_ _));exact BK338.out) hb);have n5_:=Aside0.mk (below_step (by repeat (first|(with_reducible first|exact HB.out|apply below_alloc|apply pw_below_drewN|apply below_drew1|refine below_set ?_ GE338.out)|exact HB.out)) hb);clear HO343 HO347 HO350 BK338 HB;have HO343:=n0_;have HO347:=n1_;have HO350:=n2_;have HO353:=n3_;have BK338:=n4_;have HB:=n5_;clear n0_ n1_ n2_ n3_ n4_ n5_;(try clear hb);(try clear hb2);(try clear hk);(try clear hi);(try clear ho0);have hcz142_0 : w141.cell? ⟨gb338,0,none⟩ = some (.int .i64 a1_0):=(blk_cell BK338.out 0).trans rfl;have hcz142_1 : w141.cell? ⟨gb338,1,none⟩ = some (.slice A1_1 l1_1.length c1_1):=(blk_cell BK338.out 1).trans rfl;have hfz142_0:=blk_frozen BK338.out 0;have hfz142_1:=blk_frozen BK338.out 1)|((with_reducible refine gate_callee (f:=20) rfl ?_);refine goesL_ (some 32) rfl rfl Tryd.func20 (by kernel_rfl) rfl #[.agg #[.int .i64 a1_0,.slice A1_1 l1_1.length c1_1]] rfl (by (try simp only [List.map_toArray,List.map_cons,List.map_nil]);first|done|rfl|(simp only [List.length_drop,List.length_take];rfl)) ?_;(with_reducible refine (laws_toNursery.calls k a1_0 _ _ l1_1 t354 t355 _ ?side1 ?side2 A15.out).mono ?_);(case side1 => repeat (first|exact (Kd.C_below HR1_1.out HB.out)|(with_reducible first|refine Kd.C_alloc ?_ _|refine Kd.C_drewN ?_ _|refine Kd.C_drew ?_)));(case side2 => exact HC1_1.out);rintro e w143 ⟨v356,rfl,ho0,hb⟩;refine ⟨_,rfl,?_⟩;have n0_:=Aside0.mk (Kd.R_below (by (with_reducible repeat (first|apply Kd.R_alloc|apply Kd.R_drewN|apply Kd.R_drew));exact HO343.out) hb);have n1_:=Aside0.mk (Kd.R_elder' (by (with_reducible repeat (first|apply Kd.R_alloc|apply Kd.R_drewN|apply Kd.R_drew));exact HO347.out) (Kd.R_base ho0) hb);have n2_:=Aside0.mk (Kd.R_elder' (by (with_reducible repeat (first|apply Kd.R_alloc|apply Kd.R_drewN|apply Kd.R_drew));exact HO350.out) (Kd.R_base ho0) hb);have n3_:=Aside0.mk (Kd.R_below (by (with_reducible repeat (first|apply Kd.R_alloc|apply Kd.R_drewN|apply Kd.R_drew));exact HO353.out) hb);have n4_:=Aside0.mk (Kd.R_lower (Kd.R_new' (Kd.R_new' ho0 (Kd.R_lt (by (with_reducible repeat (first|apply Kd.R_alloc|apply Kd.R_drewN|apply Kd.R_drew));exact HO347.out))) (Kd.R_lt (by (with_reducible repeat (first|apply Kd.R_alloc|apply Kd.R_drewN|apply Kd.R_drew));exact HO350.out))) (below_size (by repeat (first|(with_reducible first|exact HB.out|apply below_alloc|apply pw_below_drewN|apply below_drew1|refine below_set ?_ GE338.out)|exact HB.out))));have n5_:=Aside0.mk (blk_below (g:=gb338) (o:=.cells #[.int .i64 a1_0,.slice A1_1 l1_1.length c1_1] 25 (0,0)) (by (with_reducible repeat (first|refine blk_drewN ?_ _|refine blk_drew ?_|refine blk_alloc ?_ _));exact BK338.out) hb);have n6_:=Aside0.mk (below_step (by repeat (first|(with_reducible first|exact HB.out|apply below_alloc|apply pw_below_drewN|apply below_drew1|refine below_set ?_ GE338.out)|exact HB.out)) hb);clear HO343 HO347 HO350 HO353 BK338 HB;have HO343:=n0_;have HO347:=n1_;have HO350:=n2_;have HO353:=n3_;have HO357:=n4_;have BK338:=n5_;have HB:=n6_;clear n0_ n1_ n2_ n3_ n4_ n5_ n6_;(try clear hb);(try clear hb2);(try clear hk);(try clear hi);(try clear ho0))|((with_reducible refine gate_dst (N:=8) rfl ?_);refine box_event ?hg (N:=8) ?hd (cs:=#[.int .i64 0,.slice none 0 0]) (t:=30) ?hr ?_;(case hd => rfl);(case hg => rfl);(case hr => first|(go_simp;done)|(go_simp;rfl));intro gb358 hg w144 hbox hb;have n0_:=Aside0.mk (Kd.R_below (by (with_reducible repeat (first|apply Kd.R_alloc|apply Kd.R_drewN|apply Kd.R_drew));exact HO343.out) hb);have n1_:=Aside0.mk (Kd.R_below (by (with_reducible repeat (first|apply Kd.R_alloc|apply Kd.R_drewN|apply Kd.R_drew));exact HO347.out) hb);have n2_:=Aside0.mk (Kd.R_below (by (with_reducible repeat (first|apply Kd.R_alloc|apply Kd.R_drewN|apply Kd.R_drew));exact HO350.out) hb);have n3_:=Aside0.mk (Kd.R_below (by (with_reducible repeat (first|apply Kd.R_alloc|apply Kd.R_drewN|apply Kd.R_drew));exact HO353.out) hb);have n4_:=Aside0.mk (Kd.R_below (by (with_reducible repeat (first|apply Kd.R_alloc|apply Kd.R_drewN|apply Kd.R_drew));exact HO357.out) hb);have n5_:=Aside0.mk (blk_below (g:=gb338) (o:=.cells #[.int .i64 a1_0,.slice A1_1 l1_1.length c1_1] 25 (0,0)) (by (with_reducible repeat (first|refine blk_drewN ?_ _|refine blk_drew ?_|refine blk_alloc ?_ _));exact BK338.out) hb);have n6_:=Aside0.mk (below_step (by repeat (first|(with_reducible first|exact HB.out|apply below_alloc|apply pw_below_drewN|apply below_drew1|refine below_set ?_ GE338.out)|exact HB.out)) hb);have n7_:=Aside0.mk (hbox);have n8_:=Aside0.mk ((by rw [hg];exact (below_size (by repeat (first|(with_reducible first|exact HB.out|apply below_alloc|apply pw_below_drewN|apply below_drew1|refine below_set ?_ GE338.out)|exact HB.out))) : w.heap.size ≤ gb358));have n9_:=Aside0.mk ((by rw [hg];exact (below_size (by repeat (first|(with_reducible first|exact HB.out|apply below_alloc|apply pw_below_drewN|apply below_drew1|refine below_set ?_ GE338.out)|exact HB.out))) : w.heap.size ≤ gb358));have n10_:=Aside0.mk ((by rw [hg];exact Nat.ne_of_lt (blk_lt (g:=gb338) (o:=.cells #[.int .i64 a1_0,.slice A1_1 l1_1.length c1_1] 25 (0,0)) (by (with_reducible repeat (first|refine blk_drewN ?_ _|refine blk_drew ?_|refine blk_alloc ?_ _));exact BK338.out)) : gb338≠gb358));have n11_:=Aside0.mk ((by rw [hg];exact Nat.ne_of_gt (blk_lt (g:=gb338) (o:=.cells #[.int .i64 a1_0,.slice A1_1 l1_1.length c1_1] 25 (0,0)) (by (with_reducible repeat (first|refine blk_drewN ?_ _|refine blk_drew ?_|refine blk_alloc ?_ _));exact BK338.out)) : gb358≠gb338));clear HO343 HO347 HO350 HO353 HO357 BK338 HB;have HO343:=n0_;have HO347:=n1_;have HO350:=n2_;have HO353:=n3_;have HO357:=n4_;have BK338:=n5_;have HB:=n6_;have BK358:=n7_;have GW358:=n8_;have GE358:=n9_;have NB338_358:=n10_;have NB358_338:=n11_;clear n0_ n1_ n2_ n3_ n4_ n5_ n6_ n7_ n8_ n9_ n10_ n11_;clear hb hbox hg;have hnb145:=NB358_338.out;have hnc145:=NB338_358.out;have hcz146_0 : w144.cell? ⟨gb358,0,none⟩ = some (.int .i64 0):=(blk_cell BK358.out 0).trans rfl;have hcz146_1 : w144.cell? ⟨gb358,1,none⟩ = some (.slice none 0 0):=(blk_cell BK358.out 1).trans rfl;have hfz146_0:=blk_frozen BK358.out 0;have hfz146_1:=blk_frozen BK358.out 1;obtain ⟨Ao147,co147,eo147⟩:=Kd.R_slice HO357.out;subst eo147;obtain ⟨Ao148,co148,eo148⟩:=Kd.R_slice HO353.out;subst eo148)|((with_reducible refine gate_callee (f:=32) rfl ?_);refine goesL_ (some 35) rfl rfl Tryd.func32 (by kernel_rfl) rfl #[.slice Ao148 t351.length co148,.agg #[.int .i64 t354,.slice Ao147 t355.length co147]] rfl (by (try simp only [List.map_toArray,List.map_cons,List.map_nil]);first|done|rfl|(simp only [List.length_drop,List.length_take];rfl)) ?_;(with_reducible refine (impl_Ages.calls k _ _ t351 t354 _ _ t355 t359 _ ?side1 ?side2 ?side3 ?side4 A16.out).mono ?_);(case side1 => refine (Kd.R_reads' (e:=9) (base:=w.heap.size) (ok:=fun k_ => (True∧some k_≠(.slice Ao138 t341.length co138 : Value).ownBlock)) (n:=t351.length) (c:=co148) ?_).2.2;exact (by (with_reducible repeat (first|apply Kd.R_alloc|apply Kd.R_drewN|apply Kd.R_drew));exact (Kd.R_mono (Kd.R_far (p:=⟨gb358,1,none⟩) (Kd.R_far (p:=⟨gb358,0,none⟩) (Kd.R_types HO353.out BK358.out (by decide)) (fun _ hk => hk.2) (.int .i64 t354)) (fun _ hk => hk.2) (.slice Ao147 t355.length co147)) (fun _ h_ => h_.1))));(case side2 => exact (Kd.R_reads' HO353.out).2.1);(case side3 => refine (Kd.R_reads' (e:=2) (base:=w.heap.size) (ok:=fun k_ => ((True∧some k_≠(.slice Ao139 t345.length co139 : Value).ownBlock)∧some k_≠(v349 : Value).ownBlock)) (n:=t355.length) (c:=co147) ?_).2.2;exact (by (with_reducible repeat (first|apply Kd.R_alloc|apply Kd.R_drewN|apply Kd.R_drew));exact (Kd.R_mono (Kd.R_far (p:=⟨gb358,1,none⟩) (Kd.R_far (p:=⟨gb358,0,none⟩) (Kd.R_types HO357.out BK358.out (by decide)) (fun _ hk => hk.2) (.int .i64 t354)) (fun _ hk => hk.2) (.slice Ao147 t355.length co147)) (fun _ h_ => h_.1))));(case side4 => exact (Kd.R_reads' HO357.out).2.1);rintro e w149 ⟨v360,rfl,ho0,hb⟩;refine ⟨_,rfl,?_⟩;have n0_:=Aside0.mk (Kd.R_below (by (with_reducible repeat (first|apply Kd.R_alloc|apply Kd.R_drewN|apply Kd.R_drew));exact (Kd.R_mono (Kd.R_far (p:=⟨gb358,1,none⟩) (Kd.R_far (p:=⟨gb358,0,none⟩) (Kd.R_types HO343.out BK358.out (by decide)) (fun _ hk => hk.2) (.int .i64 t354)) (fun _ hk => hk.2) (.slice Ao147 t355.length co147)) (fun _ h_ => h_.1))) hb);have n1_:=Aside0.mk (Kd.R_elder' (by (with_reducible repeat (first|apply Kd.R_alloc|apply Kd.R_drewN|apply Kd.R_drew));exact (Kd.R_mono (Kd.R_far (p:=⟨gb358,1,none⟩) (Kd.R_far (p:=⟨gb358,0,none⟩) (Kd.R_types HO347.out BK358.out (by decide)) (fun _ hk => hk.2) (.int .i64 t354)) (fun _ hk => hk.2) (.slice Ao147 t355.length co147)) (fun _ h_ => h_.1))) (Kd.R_base ho0) hb);have n2_:=Aside0.mk (Kd.R_elder' (by (with_reducible repeat (first|apply Kd.R_alloc|apply Kd.R_drewN|apply Kd.R_drew));exact (Kd.R_mono (Kd.R_far (p:=⟨gb358,1,none⟩) (Kd.R_far (p:=⟨gb358,0,none⟩) (Kd.R_types HO350.out BK358.out (by decide)) (fun _ hk => hk.2) (.int .i64 t354)) (fun _ hk => hk.2) (.slice Ao147 t355.length co147)) (fun _ h_ => h_.1))) (Kd.R_base ho0) hb);have n3_:=Aside0.mk (Kd.R_below (by (with_reducible repeat (first|apply Kd.R_alloc|apply Kd.R_drewN|apply Kd.R_drew));exact (Kd.R_mono (Kd.R_far (p:=⟨gb358,1,none⟩) (Kd.R_far (p:=⟨gb358,0,none⟩) (Kd.R_types HO353.out BK358.out (by decide)) (fun _ hk => hk.2) (.int .i64 t354)) (fun _ hk => hk.2) (.slice Ao147 t355.length co147)) (fun _ h_ => h_.1))) hb);have n4_:=Aside0.mk (Kd.R_elder' (by (with_reducible repeat (first|apply Kd.R_alloc|apply Kd.R_drewN|apply Kd.R_drew));exact (Kd.R_mono (Kd.R_far (p:=⟨gb358,1,none⟩) (Kd.R_far (p:=⟨gb358,0,none⟩) (Kd.R_types HO357.out BK358.out (by decide)) (fun _ hk => hk.2) (.int .i64 t354)) (fun _ hk => hk.2) (.slice Ao147 t355.length co147)) (fun _ h_ => h_.1))) (Kd.R_base ho0) hb);have n5_:=Aside0.mk (Kd.R_lower (Kd.R_new' (Kd.R_new' (Kd.R_new' ho0 (Kd.R_lt (by (with_reducible repeat (first|apply Kd.R_alloc|apply Kd.R_drewN|apply Kd.R_drew));exact (Kd.R_mono (Kd.R_far (p:=⟨gb358,1,none⟩) (Kd.R_far (p:=⟨gb358,0,none⟩) (Kd.R_types HO347.out BK358.out (by decide)) (fun _ hk => hk.2) (.int .i64 t354)) (fun _ hk => hk.2) (.slice Ao147 t355.length co147)) (fun _ h_ => h_.1))))) (Kd.R_lt (by (with_reducible repeat (first|apply Kd.R_alloc|apply Kd.R_drewN|apply Kd.R_drew));exact (Kd.R_mono (Kd.R_far (p:=⟨gb358,1,none⟩) (Kd.R_far (p:=⟨gb358,0,none⟩) (Kd.R_types HO350.out BK358.out (by decide)) (fun _ hk => hk.2) (.int .i64 t354)) (fun _ hk => hk.2) (.slice Ao147 t355.length co147)) (fun _ h_ => h_.1))))) (Kd.R_lt (by (with_reducible repeat (first|apply Kd.R_alloc|apply Kd.R_drewN|apply Kd.R_drew));exact (Kd.R_mono (Kd.R_far (p:=⟨gb358,1,none⟩) (Kd.R_far (p:=⟨gb358,0,none⟩) (Kd.R_types HO357.out BK358.out (by decide)) (fun _ hk => hk.2) (.int .i64 t354)) (fun _ hk => hk.2) (.slice Ao147 t355.length co147)) (fun _ h_ => h_.1))))) (below_size (by repeat (first|(with_reducible first|exact HB.out|apply below_alloc|apply pw_below_drewN|apply below_drew1|refine below_set ?_ GE338.out|refine below_set ?_ GE358.out)|exact HB.out))));have n6_:=Aside0.mk (blk_below (g:=gb338) (o:=.cells #[.int .i64 a1_0,.slice A1_1 l1_1.length c1_1] 25 (0,0)) (by (with_reducible repeat (first|refine blk_drewN ?_ _|refine blk_drew ?_|refine blk_alloc ?_ _));refine blk_far ?_ NB338_358.out _;(with_reducible repeat (first|refine blk_drewN ?_ _|refine blk_drew ?_|refine blk_alloc ?_ _));refine blk_far ?_ NB338_358.out _;(with_reducible repeat (first|refine blk_drewN ?_ _|refine blk_drew ?_|refine blk_alloc ?_ _));exact BK338.out) hb);have n7_:=Aside0.mk (blk_below (g:=gb358) (o:=.cells #[.int .i64 t354,.slice Ao147 t355.length co147] 30 (0,0)) (by (with_reducible repeat (first|refine blk_drewN ?_ _|refine blk_drew ?_|refine blk_alloc ?_ _));refine blk_put (cs:=#[.int .i64 t354,.slice none 0 0]) ?_ 1 _ rfl;(with_reducible repeat (first|refine blk_drewN ?_ _|refine blk_drew ?_|refine blk_alloc ?_ _));refine blk_put (cs:=#[.int .i64 0,.slice none 0 0]) ?_ 0 _ rfl;(with_reducible repeat (first|refine blk_drewN ?_ _|refine blk_drew ?_|refine blk_alloc ?_ _));exact BK358.out) hb);have n8_:=Aside0.mk (below_step (by repeat (first|(with_reducible first|exact HB.out|apply below_alloc|apply pw_below_drewN|apply below_drew1|refine below_set ?_ GE338.out|refine below_set ?_ GE358.out)|exact HB.out)) hb);clear HO343 HO347 HO350 HO353 HO357 BK338 BK358 HB;have HO343:=n0_;have HO347:=n1_;have HO350:=n2_;have HO353:=n3_;have HO357:=n4_;have HO361:=n5_;have BK338:=n6_;have BK358:=n7_;have HB:=n8_;clear n0_ n1_ n2_ n3_ n4_ n5_ n6_ n7_ n8_;(try clear hb);(try clear hb2);(try clear hk);(try clear hi);(try clear ho0);obtain ⟨Ao150,co150,eo150⟩:=Kd.R_slice HO361.out;subst eo150;obtain ⟨Ao151,co151,eo151⟩:=Kd.R_slice HO350.out;subst eo151)|((with_reducible refine gate_callee (f:=26) rfl ?_);refine goesL_ (some 38) rfl rfl Tryd.func26 (by kernel_rfl) rfl #[.slice Ao150 t359.length co150,.slice Ao151 t348.length co151] rfl (by (try simp only [List.map_toArray,List.map_cons,List.map_nil]);first|done|rfl|(simp only [List.length_drop,List.length_take];rfl)) ?_;(with_reducible refine (laws_eqInt64S.calls k _ _ t359 _ _ t348 true _ ?side1 ?side2 ?side3 ?side4 A17.out).mono ?_);(case side1 => repeat (first|exact (Kd.R_reads' HO361.out).2.2|(with_reducible first|refine Kd.C_alloc ?_ _|refine Kd.C_drewN ?_ _|refine Kd.C_drew ?_)));(case side2 => exact (Kd.R_reads' HO361.out).2.1);(case side3 => repeat (first|exact (Kd.R_reads' HO350.out).2.2|(with_reducible first|refine Kd.C_alloc ?_ _|refine Kd.C_drewN ?_ _|refine Kd.C_drew ?_)));(case side4 => exact (Kd.R_reads' HO350.out).2.1);rintro e w' ⟨rfl,⟨nd,rfl⟩⟩;refine ⟨_,rfl,?_⟩)|((with_reducible refine gate_callee (f:=19) rfl ?_);refine goesL_ (some 42) rfl rfl Tryd.func19 (by kernel_rfl) rfl #[.slice A0 l0.length c0] rfl (by (try simp only [List.map_toArray,List.map_cons,List.map_nil]);first|done|rfl|(simp only [List.length_drop,List.length_take];rfl)) ?_;(with_reducible refine (laws_toStringS.calls k _ _ l0 t363 _ ?side1 ?side2 A19.out).mono ?_);(case side1 => repeat (first|exact (Kd.C_below HR0.out (by repeat (first|(with_reducible first|exact HB.out|apply below_alloc|apply pw_below_drewN|apply below_drew1|refine below_set ?_ GE338.out|refine below_set ?_ GE358.out)|exact HB.out)))|(with_reducible first|refine Kd.C_alloc ?_ _|refine Kd.C_drewN ?_ _|refine Kd.C_drew ?_)));(case side2 => exact HC0.out);rintro e w152 ⟨v364,rfl,ho0,hb⟩;refine ⟨_,rfl,?_⟩;have n0_:=Aside0.mk (Kd.R_elder' (by (with_reducible repeat (first|apply Kd.R_alloc|apply Kd.R_drewN|apply Kd.R_drew));exact HO343.out) (Kd.R_base ho0) hb);have n1_:=Aside0.mk (Kd.R_below (by (with_reducible repeat (first|apply Kd.R_alloc|apply Kd.R_drewN|apply Kd.R_drew));exact HO347.out) hb);have n2_:=Aside0.mk (Kd.R_below (by (with_reducible repeat (first|apply Kd.R_alloc|apply Kd.R_drewN|apply Kd.R_drew));exact HO350.out) hb);have n3_:=Aside0.mk (Kd.R_elder' (by (with_reducible repeat (first|apply Kd.R_alloc|apply Kd.R_drewN|apply Kd.R_drew));exact HO353.out) (Kd.R_base ho0) hb);have n4_:=Aside0.mk (Kd.R_below (by (with_reducible repeat (first|apply Kd.R_alloc|apply Kd.R_drewN|apply Kd.R_drew));exact HO357.out) hb);have n5_:=Aside0.mk (Kd.R_below (by (with_reducible repeat (first|apply Kd.R_alloc|apply Kd.R_drewN|apply Kd.R_drew));exact HO361.out) hb);have n6_:=Aside0.mk (Kd.R_lower (Kd.R_new' (Kd.R_new' ho0 (Kd.R_lt (by (with_reducible repeat (first|apply Kd.R_alloc|apply Kd.R_drewN|apply Kd.R_drew));exact HO343.out))) (Kd.R_lt (by (with_reducible repeat (first|apply Kd.R_alloc|apply Kd.R_drewN|apply Kd.R_drew));exact HO353.out))) (below_size (by repeat (first|(with_reducible first|exact HB.out|apply below_alloc|apply pw_below_drewN|apply below_drew1|refine below_set ?_ GE338.out|refine below_set ?_ GE358.out)|exact HB.out))));have n7_:=Aside0.mk (blk_below (g:=gb338) (o:=.cells #[.int .i64 a1_0,.slice A1_1 l1_1.length c1_1] 25 (0,0)) (by (with_reducible repeat (first|refine blk_drewN ?_ _|refine blk_drew ?_|refine blk_alloc ?_ _));exact BK338.out) hb);have n8_:=Aside0.mk (blk_below (g:=gb358) (o:=.cells #[.int .i64 t354,.slice Ao147 t355.length co147] 30 (0,0)) (by (with_reducible repeat (first|refine blk_drewN ?_ _|refine blk_drew ?_|refine blk_alloc ?_ _));exact BK358.out) hb);have n9_:=Aside0.mk (below_step (by repeat (first|(with_reducible first|exact HB.out|apply below_alloc|apply pw_below_drewN|apply below_drew1|refine below_set ?_ GE338.out|refine below_set ?_ GE358.out)|exact HB.out)) hb);clear HO343 HO347 HO350 HO353 HO357 HO361 BK338 BK358 HB;have HO343:=n0_;have HO347:=n1_;have HO350:=n2_;have HO353:=n3_;have HO357:=n4_;have HO361:=n5_;have HO365:=n6_;have BK338:=n7_;have BK358:=n8_;have HB:=n9_;clear n0_ n1_ n2_ n3_ n4_ n5_ n6_ n7_ n8_ n9_;(try clear hb);(try clear hb2);(try clear hk);(try clear hi);(try clear ho0);obtain ⟨Ao153,co153,eo153⟩:=Kd.R_slice HO365.out;subst eo153)|((with_reducible refine gate_callee (f:=22) rfl ?_);refine goesL_ (some 43) rfl rfl Tryd.func22 (by kernel_rfl) rfl #[.slice Ao148 t351.length co148,.slice Ao153 t363.length co153] rfl (by (try simp only [List.map_toArray,List.map_cons,List.map_nil]);first|done|rfl|(simp only [List.length_drop,List.length_take];rfl)) ?_;(with_reducible refine (laws_eqStringS.calls k _ _ t351 _ _ t363 false _ ?side1 ?side2 ?side3 ?side4 A20.out).mono ?_);(case side1 => repeat (first|exact (Kd.R_reads' HO353.out).2.2|(with_reducible first|refine Kd.C_alloc ?_ _|refine Kd.C_drewN ?_ _|refine Kd.C_drew ?_)));(case side2 => exact (Kd.R_reads' HO353.out).2.1);(case side3 => repeat (first|exact (Kd.R_reads' HO365.out).2.2|(with_reducible first|refine Kd.C_alloc ?_ _|refine Kd.C_drewN ?_ _|refine Kd.C_drew ?_)));(case side4 => exact (Kd.R_reads' HO365.out).2.1);rintro e w' ⟨rfl,⟨nd,rfl⟩⟩;refine ⟨_,rfl,?_⟩))
     go_ret
     exact ⟨by first|rfl|(simp [errW_none,errW_some] <;> rfl)|(simp [*,errW_none,errW_some] <;> rfl),by repeat (first|(with_reducible first|exact HB.out|apply below_alloc|apply pw_below_drewN|apply below_drew1|refine below_set ?_ GE338.out|refine below_set ?_ GE358.out)|exact HB.out)⟩
   ·replace c18:=Bool.eq_false_iff.mpr c18
    subst c18
    have H1 : (some false) = some r:=by rw [if_neg (show ¬ (false = true) by decide)] at H;exact H
    clear H
    have H:=H1
    clear H1
    obtain rfl:=Option.some.inj H
    go_enter Tryd.func5,Tryd.ntmps5
    try go_wp2_with (first|((with_reducible refine gate_dst (N:=3) rfl ?_);refine box_event ?hg (N:=3) ?hd (cs:=#[.int .i64 a1_0,.slice A1_1 l1_1.length c1_1]) (t:=25) ?hr ?_;(case hd => rfl);(case hg => rfl);(case hr => first|(go_simp;done)|(go_simp;rfl));intro gb338 hg w154 hbox hb;have n0_:=Aside0.mk (below_step (by repeat (first|(with_reducible first|exact HB.out|apply below_alloc|apply pw_below_drewN|apply below_drew1)|exact HB.out)) hb);have n1_:=Aside0.mk (hbox);have n2_:=Aside0.mk ((by rw [hg];exact (below_size (by repeat (first|(with_reducible first|exact HB.out|apply below_alloc|apply pw_below_drewN|apply below_drew1)|exact HB.out))) : w.heap.size ≤ gb338));have n3_:=Aside0.mk ((by rw [hg];exact (below_size (by repeat (first|(with_reducible first|exact HB.out|apply below_alloc|apply pw_below_drewN|apply below_drew1)|exact HB.out))) : w.heap.size ≤ gb338));clear HB;have HB:=n0_;have BK338:=n1_;have GW338:=n2_;have GE338:=n3_;clear n0_ n1_ n2_ n3_;clear hb hbox hg)|((with_reducible refine gate_callee (f:=16) rfl ?_);refine goesL_ (some 16) rfl rfl Tryd.func16 (by kernel_rfl) rfl #[.slice A0 l0.length c0,.int .i64 1048576] rfl (by (try simp only [List.map_toArray,List.map_cons,List.map_nil]);first|done|rfl|(simp only [List.length_drop,List.length_take];rfl)) ?_;(with_reducible refine (laws_szStringS.calls k _ _ l0 1048576 t339 _ ?side1 ?side2 A3.out).mono ?_);(case side1 => repeat (first|exact (Kd.C_below HR0.out HB.out)|(with_reducible first|refine Kd.C_alloc ?_ _|refine Kd.C_drewN ?_ _|refine Kd.C_drew ?_)));(case side2 => exact HC0.out);rintro e w' ⟨rfl,⟨nd,rfl⟩⟩;refine ⟨_,rfl,?_⟩;(try (rw [drewN_self w154];generalize hq_ : World.drewN w154 _ = w154;have n0_ : Aside0 (w154.heap[gb338]? = some (.cells #[.int .i64 a1_0,.slice A1_1 l1_1.length c1_1] 25 (0,0))):=⟨by rw [← hq_];exact (by (with_reducible repeat (first|refine blk_drewN ?_ _|refine blk_drew ?_|refine blk_alloc ?_ _));exact BK338.out)⟩;have n1_ : Aside0 (Below w.heap.size w w154):=⟨by rw [← hq_];exact (by repeat (first|(with_reducible first|exact HB.out|apply below_alloc|apply pw_below_drewN|apply below_drew1|refine below_set ?_ GE338.out)|exact HB.out))⟩;clear BK338 HB hq_;have BK338:=n0_;have HB:=n1_;clear n0_ n1_));have hcz155_0 : w154.cell? ⟨gb338,0,none⟩ = some (.int .i64 a1_0):=(blk_cell BK338.out 0).trans rfl;have hcz155_1 : w154.cell? ⟨gb338,1,none⟩ = some (.slice A1_1 l1_1.length c1_1):=(blk_cell BK338.out 1).trans rfl;have hfz155_0:=blk_frozen BK338.out 0;have hfz155_1:=blk_frozen BK338.out 1)|((with_reducible refine gate_callee (f:=17) rfl ?_);refine goesL_ (some 21) rfl rfl Tryd.func17 (by kernel_rfl) rfl #[.agg #[.int .i64 a1_0,.slice A1_1 l1_1.length c1_1],.int .i64 t339] rfl (by (try simp only [List.map_toArray,List.map_cons,List.map_nil]);first|done|rfl|(simp only [List.length_drop,List.length_take];rfl)) ?_;(with_reducible refine (laws_szNursery.calls a1_0 _ _ l1_1 t339 t340 _ ?side1 ?side2 A6.out).mono ?_);(case side1 => repeat (first|exact (Kd.C_below HR1_1.out HB.out)|(with_reducible first|refine Kd.C_alloc ?_ _|refine Kd.C_drewN ?_ _|refine Kd.C_drew ?_)));(case side2 => exact HC1_1.out);rintro e w156 ⟨rfl,hb⟩;refine ⟨_,rfl,?_⟩;have n0_:=Aside0.mk (blk_below (g:=gb338) (o:=.cells #[.int .i64 a1_0,.slice A1_1 l1_1.length c1_1] 25 (0,0)) (by (with_reducible repeat (first|refine blk_drewN ?_ _|refine blk_drew ?_|refine blk_alloc ?_ _));exact BK338.out) hb);have n1_:=Aside0.mk (below_step (by repeat (first|(with_reducible first|exact HB.out|apply below_alloc|apply pw_below_drewN|apply below_drew1|refine below_set ?_ GE338.out)|exact HB.out)) hb);clear BK338 HB;have BK338:=n0_;have HB:=n1_;clear n0_ n1_;(try clear hb);(try clear hb2);(try clear hk);(try clear hi)))
    have n0_:=Aside0.mk (blk_drew BK338.out)
    have n1_:=Aside0.mk (below_drew1 HB.out)
    clear BK338
    clear HB
    have BK338:=n0_
    have HB:=n1_
    clear n0_ n1_
    refine start_ (n:=6) (S:=fun w' => w'.cell? ⟨gb338,0,none⟩ = some (.int .i64 a1_0)∧w'.cell? ⟨gb338,1,none⟩ = some (.slice A1_1 l1_1.length c1_1)) (ds:=[]) #[false,false,false,false,false,false] (by kernel_rfl) rfl rfl ⟨(blk_cell BK338.out 0).trans rfl,(blk_cell BK338.out 1).trans rfl⟩ (fun hHeld => ?_)
    generalize w156.drew = w157 at BK338 HB hHeld ⊢
    refine pure_ (i:=0) (N:=some 24) (v:=?_) (a':=?_) #[true,false,false,false,false,false] rfl rfl (by kernel_rfl) (fun _ _ _ h => h) (Or.inl ⟨by rfl,?_⟩) ?_ ?_
    rotate_left
    ·intro w'
     go_simp
     with_reducible rfl
    rotate_left
    ·simp only [Act.put,List.setIfInBounds_toArray,List.set_cons_zero,List.set_cons_succ,i64_w,i32_w]
     rfl
    refine take_ (i:=2) (N:=some 26) (v:=?_) (a':=?_) #[true,false,true,false,false,false] rfl rfl (by kernel_rfl) (fun _ _ _ h => h) (Or.inl ⟨by rfl,?_⟩) hHeld ?_ ?_
    rotate_left
    ·rintro w' ⟨s0,s1⟩
     go_simp
     with_reducible rfl
    rotate_left
    ·simp only [Act.put,List.setIfInBounds_toArray,List.set_cons_zero,List.set_cons_succ,i64_w,i32_w]
     rfl
    refine one_ (i:=1) (N:=some 25) #[true,true,true,false,false,false] rfl rfl (by kernel_rfl) (by decide) (fun K hK => ?_)
    refine goes_ Tryd.func19 (by kernel_rfl) rfl #[.slice A0 l0.length c0] (by rfl) rfl rfl (by (try simp only [List.map_toArray,List.map_cons,List.map_nil]);first|done|rfl|(simp only [List.length_drop,List.length_take];rfl)) ?_
    with_reducible refine (laws_toStringS.calls k _ _ l0 t341 _ ?side1 ?side2 A11.out).mono ?_
    (case side1 => repeat (first|exact (Kd.C_below HR0.out HB.out)|(with_reducible first|refine Kd.C_alloc ?_ _|refine Kd.C_drewN ?_ _|refine Kd.C_drew ?_)))
    (case side2 => exact HC0.out)
    rintro e w158 ⟨v342,rfl,ho0,hb⟩
    refine ⟨_,rfl,?_⟩
    have n0_:=Aside0.mk (Kd.R_lower ho0 (below_size (by repeat (first|(with_reducible first|exact HB.out|apply below_alloc|apply pw_below_drewN|apply below_drew1|refine below_set ?_ GE338.out)|exact HB.out))))
    have n1_:=Aside0.mk (blk_below (g:=gb338) (o:=.cells #[.int .i64 a1_0,.slice A1_1 l1_1.length c1_1] 25 (0,0)) (by (with_reducible repeat (first|refine blk_drewN ?_ _|refine blk_drew ?_|refine blk_alloc ?_ _));exact BK338.out) hb)
    have n2_:=Aside0.mk (below_step (by repeat (first|(with_reducible first|exact HB.out|apply below_alloc|apply pw_below_drewN|apply below_drew1|refine below_set ?_ GE338.out)|exact HB.out)) hb)
    clear BK338
    clear HB
    have HO343:=n0_
    have BK338:=n1_
    have HB:=n2_
    clear n0_ n1_ n2_
    (try clear hb)
    (try clear hb2)
    (try clear hk)
    (try clear hi)
    (try clear ho0)
    refine hK.out _ _ ⟨(blk_cell BK338.out 0).trans rfl,(blk_cell BK338.out 1).trans rfl⟩ (fun hHeld => ?_)
    clear hK K
    refine norm_ (a':=?_) ?_ ?_
    rotate_left
    ·show Act.put _ (some 25) _ = _
     simp only [Act.put,List.setIfInBounds_toArray,List.set_cons_zero,List.set_cons_succ,i64_w,i32_w]
     rfl
    refine one_ (i:=3) (N:=some 27) #[true,true,true,true,false,false] rfl rfl (by kernel_rfl) (by decide) (fun K hK => ?_)
    refine goes_ Tryd.func20 (by kernel_rfl) rfl #[.agg #[.int .i64 a1_0,.slice A1_1 l1_1.length c1_1]] (by rfl) rfl rfl (by (try simp only [List.map_toArray,List.map_cons,List.map_nil]);first|done|rfl|(simp only [List.length_drop,List.length_take];rfl)) ?_
    with_reducible refine (laws_toNursery.calls k a1_0 _ _ l1_1 t344 t345 _ ?side1 ?side2 A12.out).mono ?_
    (case side1 => repeat (first|exact (Kd.C_below HR1_1.out HB.out)|(with_reducible first|refine Kd.C_alloc ?_ _|refine Kd.C_drewN ?_ _|refine Kd.C_drew ?_)))
    (case side2 => exact HC1_1.out)
    rintro e w159 ⟨v346,rfl,ho0,hb⟩
    refine ⟨_,rfl,?_⟩
    have n0_:=Aside0.mk (Kd.R_below (by (with_reducible repeat (first|apply Kd.R_alloc|apply Kd.R_drewN|apply Kd.R_drew));exact HO343.out) hb)
    have n1_:=Aside0.mk (Kd.R_lower ho0 (below_size (by repeat (first|(with_reducible first|exact HB.out|apply below_alloc|apply pw_below_drewN|apply below_drew1|refine below_set ?_ GE338.out)|exact HB.out))))
    have n2_:=Aside0.mk (blk_below (g:=gb338) (o:=.cells #[.int .i64 a1_0,.slice A1_1 l1_1.length c1_1] 25 (0,0)) (by (with_reducible repeat (first|refine blk_drewN ?_ _|refine blk_drew ?_|refine blk_alloc ?_ _));exact BK338.out) hb)
    have n3_:=Aside0.mk (below_step (by repeat (first|(with_reducible first|exact HB.out|apply below_alloc|apply pw_below_drewN|apply below_drew1|refine below_set ?_ GE338.out)|exact HB.out)) hb)
    clear HO343
    clear BK338
    clear HB
    have HO343:=n0_
    have HO347:=n1_
    have BK338:=n2_
    have HB:=n3_
    clear n0_ n1_ n2_ n3_
    (try clear hb)
    (try clear hb2)
    (try clear hk)
    (try clear hi)
    (try clear ho0)
    obtain ⟨Ao160,co160,eo160⟩:=Kd.R_slice HO343.out
    (first|subst eo160|(injection eo160 with f1_ f2_ f3_;have f4_:=f1_.symm;have f5_:=f3_.symm;clear f1_ f2_ f3_;subst f4_;subst f5_))
    obtain ⟨Ao161,co161,eo161⟩:=Kd.R_slice HO347.out
    (first|subst eo161|(injection eo161 with f1_ f2_ f3_;have f4_:=f1_.symm;have f5_:=f3_.symm;clear f1_ f2_ f3_;subst f4_;subst f5_))
    refine hK.out _ _ ⟨(blk_cell BK338.out 0).trans rfl,(blk_cell BK338.out 1).trans rfl⟩ (fun hHeld => ?_)
    clear hK K
    refine norm_ (a':=?_) ?_ ?_
    rotate_left
    ·show Act.put _ (some 27) _ = _
     simp only [Act.put,List.setIfInBounds_toArray,List.set_cons_zero,List.set_cons_succ,i64_w,i32_w]
     rfl
    refine one_ (i:=4) (N:=some 28) #[true,true,true,true,true,false] rfl rfl (by kernel_rfl) (by decide) (fun K hK => ?_)
    refine goes_ Tryd.func31 (by kernel_rfl) rfl #[.slice Ao160 t341.length co160,.agg #[.int .i64 t344,.slice Ao161 t345.length co161]] (by rfl) rfl rfl (by (try simp only [List.map_toArray,List.map_cons,List.map_nil]);first|done|rfl|(simp only [List.length_drop,List.length_take];rfl)) ?_
    with_reducible refine (spec_Ages.calls k _ _ t341 t344 _ _ t345 t348 _ ?side1 ?side2 ?side3 ?side4 A13.out).mono ?_
    (case side1 => repeat (first|exact (Kd.R_reads' HO343.out).2.2|(with_reducible first|refine Kd.C_alloc ?_ _|refine Kd.C_drewN ?_ _|refine Kd.C_drew ?_)))
    (case side2 => exact (Kd.R_reads' HO343.out).2.1)
    (case side3 => repeat (first|exact (Kd.R_reads' HO347.out).2.2|(with_reducible first|refine Kd.C_alloc ?_ _|refine Kd.C_drewN ?_ _|refine Kd.C_drew ?_)))
    (case side4 => exact (Kd.R_reads' HO347.out).2.1)
    rintro e w162 ⟨v349,rfl,ho0,hb⟩
    refine ⟨_,rfl,?_⟩
    have n0_:=Aside0.mk (Kd.R_below (by (with_reducible repeat (first|apply Kd.R_alloc|apply Kd.R_drewN|apply Kd.R_drew));exact HO343.out) hb)
    have n1_:=Aside0.mk (Kd.R_elder' (by (with_reducible repeat (first|apply Kd.R_alloc|apply Kd.R_drewN|apply Kd.R_drew));exact HO347.out) (Kd.R_base ho0) hb)
    have n2_:=Aside0.mk (Kd.R_lower (Kd.R_new' ho0 (Kd.R_lt (by (with_reducible repeat (first|apply Kd.R_alloc|apply Kd.R_drewN|apply Kd.R_drew));exact HO347.out))) (below_size (by repeat (first|(with_reducible first|exact HB.out|apply below_alloc|apply pw_below_drewN|apply below_drew1|refine below_set ?_ GE338.out)|exact HB.out))))
    have n3_:=Aside0.mk (blk_below (g:=gb338) (o:=.cells #[.int .i64 a1_0,.slice A1_1 l1_1.length c1_1] 25 (0,0)) (by (with_reducible repeat (first|refine blk_drewN ?_ _|refine blk_drew ?_|refine blk_alloc ?_ _));exact BK338.out) hb)
    have n4_:=Aside0.mk (below_step (by repeat (first|(with_reducible first|exact HB.out|apply below_alloc|apply pw_below_drewN|apply below_drew1|refine below_set ?_ GE338.out)|exact HB.out)) hb)
    clear HO343
    clear HO347
    clear BK338
    clear HB
    have HO343:=n0_
    have HO347:=n1_
    have HO350:=n2_
    have BK338:=n3_
    have HB:=n4_
    clear n0_ n1_ n2_ n3_ n4_
    (try clear hb)
    (try clear hb2)
    (try clear hk)
    (try clear hi)
    (try clear ho0)
    refine hK.out _ _ ⟨(blk_cell BK338.out 0).trans rfl,(blk_cell BK338.out 1).trans rfl⟩ (fun hHeld => ?_)
    clear hK K
    refine norm_ (a':=?_) ?_ ?_
    rotate_left
    ·show Act.put _ (some 28) _ = _
     simp only [Act.put,List.setIfInBounds_toArray,List.set_cons_zero,List.set_cons_succ,i64_w,i32_w]
     rfl
    refine pure_ (i:=5) (N:=some 6) (v:=?_) (a':=?_) #[true,true,true,true,true,true] rfl rfl (by kernel_rfl) (fun _ _ _ h => h) (Or.inl ⟨by rfl,?_⟩) ?_ ?_
    rotate_left
    ·intro w'
     go_simp
     with_reducible rfl
    rotate_left
    ·simp only [Act.put,List.setIfInBounds_toArray,List.set_cons_zero,List.set_cons_succ,i64_w,i32_w]
     rfl
    refine done_ (by kernel_rfl) ?_
    try go_wp2_with (first|((with_reducible refine gate_callee (f:=19) rfl ?_);refine goesL_ (some 30) rfl rfl Tryd.func19 (by kernel_rfl) rfl #[.slice A0 l0.length c0] rfl (by (try simp only [List.map_toArray,List.map_cons,List.map_nil]);first|done|rfl|(simp only [List.length_drop,List.length_take];rfl)) ?_;(with_reducible refine (laws_toStringS.calls k _ _ l0 t351 _ ?side1 ?side2 A14.out).mono ?_);(case side1 => repeat (first|exact (Kd.C_below HR0.out HB.out)|(with_reducible first|refine Kd.C_alloc ?_ _|refine Kd.C_drewN ?_ _|refine Kd.C_drew ?_)));(case side2 => exact HC0.out);rintro e w163 ⟨v352,rfl,ho0,hb⟩;refine ⟨_,rfl,?_⟩;have n0_:=Aside0.mk (Kd.R_elder' (by (with_reducible repeat (first|apply Kd.R_alloc|apply Kd.R_drewN|apply Kd.R_drew));exact HO343.out) (Kd.R_base ho0) hb);have n1_:=Aside0.mk (Kd.R_below (by (with_reducible repeat (first|apply Kd.R_alloc|apply Kd.R_drewN|apply Kd.R_drew));exact HO347.out) hb);have n2_:=Aside0.mk (Kd.R_below (by (with_reducible repeat (first|apply Kd.R_alloc|apply Kd.R_drewN|apply Kd.R_drew));exact HO350.out) hb);have n3_:=Aside0.mk (Kd.R_lower (Kd.R_new' ho0 (Kd.R_lt (by (with_reducible repeat (first|apply Kd.R_alloc|apply Kd.R_drewN|apply Kd.R_drew));exact HO343.out))) (below_size (by repeat (first|(with_reducible first|exact HB.out|apply below_alloc|apply pw_below_drewN|apply below_drew1|refine below_set ?_ GE338.out)|exact HB.out))));have n4_:=Aside0.mk (blk_below (g:=gb338) (o:=.cells #[.int .i64 a1_0,.slice A1_1 l1_1.length c1_1] 25 (0,0)) (by (with_reducible repeat (first|refine blk_drewN ?_ _|refine blk_drew ?_|refine blk_alloc ?_ _));exact BK338.out) hb);have n5_:=Aside0.mk (below_step (by repeat (first|(with_reducible first|exact HB.out|apply below_alloc|apply pw_below_drewN|apply below_drew1|refine below_set ?_ GE338.out)|exact HB.out)) hb);clear HO343 HO347 HO350 BK338 HB;have HO343:=n0_;have HO347:=n1_;have HO350:=n2_;have HO353:=n3_;have BK338:=n4_;have HB:=n5_;clear n0_ n1_ n2_ n3_ n4_ n5_;(try clear hb);(try clear hb2);(try clear hk);(try clear hi);(try clear ho0);have hcz164_0 : w163.cell? ⟨gb338,0,none⟩ = some (.int .i64 a1_0):=(blk_cell BK338.out 0).trans rfl;have hcz164_1 : w163.cell? ⟨gb338,1,none⟩ = some (.slice A1_1 l1_1.length c1_1):=(blk_cell BK338.out 1).trans rfl;have hfz164_0:=blk_frozen BK338.out 0;have hfz164_1:=blk_frozen BK338.out 1)|((with_reducible refine gate_callee (f:=20) rfl ?_);refine goesL_ (some 32) rfl rfl Tryd.func20 (by kernel_rfl) rfl #[.agg #[.int .i64 a1_0,.slice A1_1 l1_1.length c1_1]] rfl (by (try simp only [List.map_toArray,List.map_cons,List.map_nil]);first|done|rfl|(simp only [List.length_drop,List.length_take];rfl)) ?_;(with_reducible refine (laws_toNursery.calls k a1_0 _ _ l1_1 t354 t355 _ ?side1 ?side2 A15.out).mono ?_);(case side1 => repeat (first|exact (Kd.C_below HR1_1.out HB.out)|(with_reducible first|refine Kd.C_alloc ?_ _|refine Kd.C_drewN ?_ _|refine Kd.C_drew ?_)));(case side2 => exact HC1_1.out);rintro e w165 ⟨v356,rfl,ho0,hb⟩;refine ⟨_,rfl,?_⟩;have n0_:=Aside0.mk (Kd.R_below (by (with_reducible repeat (first|apply Kd.R_alloc|apply Kd.R_drewN|apply Kd.R_drew));exact HO343.out) hb);have n1_:=Aside0.mk (Kd.R_elder' (by (with_reducible repeat (first|apply Kd.R_alloc|apply Kd.R_drewN|apply Kd.R_drew));exact HO347.out) (Kd.R_base ho0) hb);have n2_:=Aside0.mk (Kd.R_elder' (by (with_reducible repeat (first|apply Kd.R_alloc|apply Kd.R_drewN|apply Kd.R_drew));exact HO350.out) (Kd.R_base ho0) hb);have n3_:=Aside0.mk (Kd.R_below (by (with_reducible repeat (first|apply Kd.R_alloc|apply Kd.R_drewN|apply Kd.R_drew));exact HO353.out) hb);have n4_:=Aside0.mk (Kd.R_lower (Kd.R_new' (Kd.R_new' ho0 (Kd.R_lt (by (with_reducible repeat (first|apply Kd.R_alloc|apply Kd.R_drewN|apply Kd.R_drew));exact HO347.out))) (Kd.R_lt (by (with_reducible repeat (first|apply Kd.R_alloc|apply Kd.R_drewN|apply Kd.R_drew));exact HO350.out))) (below_size (by repeat (first|(with_reducible first|exact HB.out|apply below_alloc|apply pw_below_drewN|apply below_drew1|refine below_set ?_ GE338.out)|exact HB.out))));have n5_:=Aside0.mk (blk_below (g:=gb338) (o:=.cells #[.int .i64 a1_0,.slice A1_1 l1_1.length c1_1] 25 (0,0)) (by (with_reducible repeat (first|refine blk_drewN ?_ _|refine blk_drew ?_|refine blk_alloc ?_ _));exact BK338.out) hb);have n6_:=Aside0.mk (below_step (by repeat (first|(with_reducible first|exact HB.out|apply below_alloc|apply pw_below_drewN|apply below_drew1|refine below_set ?_ GE338.out)|exact HB.out)) hb);clear HO343 HO347 HO350 HO353 BK338 HB;have HO343:=n0_;have HO347:=n1_;have HO350:=n2_;have HO353:=n3_;have HO357:=n4_;have BK338:=n5_;have HB:=n6_;clear n0_ n1_ n2_ n3_ n4_ n5_ n6_;(try clear hb);(try clear hb2);(try clear hk);(try clear hi);(try clear ho0))|((with_reducible refine gate_dst (N:=8) rfl ?_);refine box_event ?hg (N:=8) ?hd (cs:=#[.int .i64 0,.slice none 0 0]) (t:=30) ?hr ?_;(case hd => rfl);(case hg => rfl);(case hr => first|(go_simp;done)|(go_simp;rfl));intro gb358 hg w166 hbox hb;have n0_:=Aside0.mk (Kd.R_below (by (with_reducible repeat (first|apply Kd.R_alloc|apply Kd.R_drewN|apply Kd.R_drew));exact HO343.out) hb);have n1_:=Aside0.mk (Kd.R_below (by (with_reducible repeat (first|apply Kd.R_alloc|apply Kd.R_drewN|apply Kd.R_drew));exact HO347.out) hb);have n2_:=Aside0.mk (Kd.R_below (by (with_reducible repeat (first|apply Kd.R_alloc|apply Kd.R_drewN|apply Kd.R_drew));exact HO350.out) hb);have n3_:=Aside0.mk (Kd.R_below (by (with_reducible repeat (first|apply Kd.R_alloc|apply Kd.R_drewN|apply Kd.R_drew));exact HO353.out) hb);have n4_:=Aside0.mk (Kd.R_below (by (with_reducible repeat (first|apply Kd.R_alloc|apply Kd.R_drewN|apply Kd.R_drew));exact HO357.out) hb);have n5_:=Aside0.mk (blk_below (g:=gb338) (o:=.cells #[.int .i64 a1_0,.slice A1_1 l1_1.length c1_1] 25 (0,0)) (by (with_reducible repeat (first|refine blk_drewN ?_ _|refine blk_drew ?_|refine blk_alloc ?_ _));exact BK338.out) hb);have n6_:=Aside0.mk (below_step (by repeat (first|(with_reducible first|exact HB.out|apply below_alloc|apply pw_below_drewN|apply below_drew1|refine below_set ?_ GE338.out)|exact HB.out)) hb);have n7_:=Aside0.mk (hbox);have n8_:=Aside0.mk ((by rw [hg];exact (below_size (by repeat (first|(with_reducible first|exact HB.out|apply below_alloc|apply pw_below_drewN|apply below_drew1|refine below_set ?_ GE338.out)|exact HB.out))) : w.heap.size ≤ gb358));have n9_:=Aside0.mk ((by rw [hg];exact (below_size (by repeat (first|(with_reducible first|exact HB.out|apply below_alloc|apply pw_below_drewN|apply below_drew1|refine below_set ?_ GE338.out)|exact HB.out))) : w.heap.size ≤ gb358));have n10_:=Aside0.mk ((by rw [hg];exact Nat.ne_of_lt (blk_lt (g:=gb338) (o:=.cells #[.int .i64 a1_0,.slice A1_1 l1_1.length c1_1] 25 (0,0)) (by (with_reducible repeat (first|refine blk_drewN ?_ _|refine blk_drew ?_|refine blk_alloc ?_ _));exact BK338.out)) : gb338≠gb358));have n11_:=Aside0.mk ((by rw [hg];exact Nat.ne_of_gt (blk_lt (g:=gb338) (o:=.cells #[.int .i64 a1_0,.slice A1_1 l1_1.length c1_1] 25 (0,0)) (by (with_reducible repeat (first|refine blk_drewN ?_ _|refine blk_drew ?_|refine blk_alloc ?_ _));exact BK338.out)) : gb358≠gb338));clear HO343 HO347 HO350 HO353 HO357 BK338 HB;have HO343:=n0_;have HO347:=n1_;have HO350:=n2_;have HO353:=n3_;have HO357:=n4_;have BK338:=n5_;have HB:=n6_;have BK358:=n7_;have GW358:=n8_;have GE358:=n9_;have NB338_358:=n10_;have NB358_338:=n11_;clear n0_ n1_ n2_ n3_ n4_ n5_ n6_ n7_ n8_ n9_ n10_ n11_;clear hb hbox hg;have hnb167:=NB358_338.out;have hnc167:=NB338_358.out;have hcz168_0 : w166.cell? ⟨gb358,0,none⟩ = some (.int .i64 0):=(blk_cell BK358.out 0).trans rfl;have hcz168_1 : w166.cell? ⟨gb358,1,none⟩ = some (.slice none 0 0):=(blk_cell BK358.out 1).trans rfl;have hfz168_0:=blk_frozen BK358.out 0;have hfz168_1:=blk_frozen BK358.out 1;obtain ⟨Ao169,co169,eo169⟩:=Kd.R_slice HO357.out;subst eo169;obtain ⟨Ao170,co170,eo170⟩:=Kd.R_slice HO353.out;subst eo170)|((with_reducible refine gate_callee (f:=32) rfl ?_);refine goesL_ (some 35) rfl rfl Tryd.func32 (by kernel_rfl) rfl #[.slice Ao170 t351.length co170,.agg #[.int .i64 t354,.slice Ao169 t355.length co169]] rfl (by (try simp only [List.map_toArray,List.map_cons,List.map_nil]);first|done|rfl|(simp only [List.length_drop,List.length_take];rfl)) ?_;(with_reducible refine (impl_Ages.calls k _ _ t351 t354 _ _ t355 t359 _ ?side1 ?side2 ?side3 ?side4 A16.out).mono ?_);(case side1 => refine (Kd.R_reads' (e:=9) (base:=w.heap.size) (ok:=fun k_ => (True∧some k_≠(.slice Ao160 t341.length co160 : Value).ownBlock)) (n:=t351.length) (c:=co170) ?_).2.2;exact (by (with_reducible repeat (first|apply Kd.R_alloc|apply Kd.R_drewN|apply Kd.R_drew));exact (Kd.R_mono (Kd.R_far (p:=⟨gb358,1,none⟩) (Kd.R_far (p:=⟨gb358,0,none⟩) (Kd.R_types HO353.out BK358.out (by decide)) (fun _ hk => hk.2) (.int .i64 t354)) (fun _ hk => hk.2) (.slice Ao169 t355.length co169)) (fun _ h_ => h_.1))));(case side2 => exact (Kd.R_reads' HO353.out).2.1);(case side3 => refine (Kd.R_reads' (e:=2) (base:=w.heap.size) (ok:=fun k_ => ((True∧some k_≠(.slice Ao161 t345.length co161 : Value).ownBlock)∧some k_≠(v349 : Value).ownBlock)) (n:=t355.length) (c:=co169) ?_).2.2;exact (by (with_reducible repeat (first|apply Kd.R_alloc|apply Kd.R_drewN|apply Kd.R_drew));exact (Kd.R_mono (Kd.R_far (p:=⟨gb358,1,none⟩) (Kd.R_far (p:=⟨gb358,0,none⟩) (Kd.R_types HO357.out BK358.out (by decide)) (fun _ hk => hk.2) (.int .i64 t354)) (fun _ hk => hk.2) (.slice Ao169 t355.length co169)) (fun _ h_ => h_.1))));(case side4 => exact (Kd.R_reads' HO357.out).2.1);rintro e w171 ⟨v360,rfl,ho0,hb⟩;refine ⟨_,rfl,?_⟩;have n0_:=Aside0.mk (Kd.R_below (by (with_reducible repeat (first|apply Kd.R_alloc|apply Kd.R_drewN|apply Kd.R_drew));exact (Kd.R_mono (Kd.R_far (p:=⟨gb358,1,none⟩) (Kd.R_far (p:=⟨gb358,0,none⟩) (Kd.R_types HO343.out BK358.out (by decide)) (fun _ hk => hk.2) (.int .i64 t354)) (fun _ hk => hk.2) (.slice Ao169 t355.length co169)) (fun _ h_ => h_.1))) hb);have n1_:=Aside0.mk (Kd.R_elder' (by (with_reducible repeat (first|apply Kd.R_alloc|apply Kd.R_drewN|apply Kd.R_drew));exact (Kd.R_mono (Kd.R_far (p:=⟨gb358,1,none⟩) (Kd.R_far (p:=⟨gb358,0,none⟩) (Kd.R_types HO347.out BK358.out (by decide)) (fun _ hk => hk.2) (.int .i64 t354)) (fun _ hk => hk.2) (.slice Ao169 t355.length co169)) (fun _ h_ => h_.1))) (Kd.R_base ho0) hb);have n2_:=Aside0.mk (Kd.R_elder' (by (with_reducible repeat (first|apply Kd.R_alloc|apply Kd.R_drewN|apply Kd.R_drew));exact (Kd.R_mono (Kd.R_far (p:=⟨gb358,1,none⟩) (Kd.R_far (p:=⟨gb358,0,none⟩) (Kd.R_types HO350.out BK358.out (by decide)) (fun _ hk => hk.2) (.int .i64 t354)) (fun _ hk => hk.2) (.slice Ao169 t355.length co169)) (fun _ h_ => h_.1))) (Kd.R_base ho0) hb);have n3_:=Aside0.mk (Kd.R_below (by (with_reducible repeat (first|apply Kd.R_alloc|apply Kd.R_drewN|apply Kd.R_drew));exact (Kd.R_mono (Kd.R_far (p:=⟨gb358,1,none⟩) (Kd.R_far (p:=⟨gb358,0,none⟩) (Kd.R_types HO353.out BK358.out (by decide)) (fun _ hk => hk.2) (.int .i64 t354)) (fun _ hk => hk.2) (.slice Ao169 t355.length co169)) (fun _ h_ => h_.1))) hb);have n4_:=Aside0.mk (Kd.R_elder' (by (with_reducible repeat (first|apply Kd.R_alloc|apply Kd.R_drewN|apply Kd.R_drew));exact (Kd.R_mono (Kd.R_far (p:=⟨gb358,1,none⟩) (Kd.R_far (p:=⟨gb358,0,none⟩) (Kd.R_types HO357.out BK358.out (by decide)) (fun _ hk => hk.2) (.int .i64 t354)) (fun _ hk => hk.2) (.slice Ao169 t355.length co169)) (fun _ h_ => h_.1))) (Kd.R_base ho0) hb);have n5_:=Aside0.mk (Kd.R_lower (Kd.R_new' (Kd.R_new' (Kd.R_new' ho0 (Kd.R_lt (by (with_reducible repeat (first|apply Kd.R_alloc|apply Kd.R_drewN|apply Kd.R_drew));exact (Kd.R_mono (Kd.R_far (p:=⟨gb358,1,none⟩) (Kd.R_far (p:=⟨gb358,0,none⟩) (Kd.R_types HO347.out BK358.out (by decide)) (fun _ hk => hk.2) (.int .i64 t354)) (fun _ hk => hk.2) (.slice Ao169 t355.length co169)) (fun _ h_ => h_.1))))) (Kd.R_lt (by (with_reducible repeat (first|apply Kd.R_alloc|apply Kd.R_drewN|apply Kd.R_drew));exact (Kd.R_mono (Kd.R_far (p:=⟨gb358,1,none⟩) (Kd.R_far (p:=⟨gb358,0,none⟩) (Kd.R_types HO350.out BK358.out (by decide)) (fun _ hk => hk.2) (.int .i64 t354)) (fun _ hk => hk.2) (.slice Ao169 t355.length co169)) (fun _ h_ => h_.1))))) (Kd.R_lt (by (with_reducible repeat (first|apply Kd.R_alloc|apply Kd.R_drewN|apply Kd.R_drew));exact (Kd.R_mono (Kd.R_far (p:=⟨gb358,1,none⟩) (Kd.R_far (p:=⟨gb358,0,none⟩) (Kd.R_types HO357.out BK358.out (by decide)) (fun _ hk => hk.2) (.int .i64 t354)) (fun _ hk => hk.2) (.slice Ao169 t355.length co169)) (fun _ h_ => h_.1))))) (below_size (by repeat (first|(with_reducible first|exact HB.out|apply below_alloc|apply pw_below_drewN|apply below_drew1|refine below_set ?_ GE338.out|refine below_set ?_ GE358.out)|exact HB.out))));have n6_:=Aside0.mk (blk_below (g:=gb338) (o:=.cells #[.int .i64 a1_0,.slice A1_1 l1_1.length c1_1] 25 (0,0)) (by (with_reducible repeat (first|refine blk_drewN ?_ _|refine blk_drew ?_|refine blk_alloc ?_ _));refine blk_far ?_ NB338_358.out _;(with_reducible repeat (first|refine blk_drewN ?_ _|refine blk_drew ?_|refine blk_alloc ?_ _));refine blk_far ?_ NB338_358.out _;(with_reducible repeat (first|refine blk_drewN ?_ _|refine blk_drew ?_|refine blk_alloc ?_ _));exact BK338.out) hb);have n7_:=Aside0.mk (blk_below (g:=gb358) (o:=.cells #[.int .i64 t354,.slice Ao169 t355.length co169] 30 (0,0)) (by (with_reducible repeat (first|refine blk_drewN ?_ _|refine blk_drew ?_|refine blk_alloc ?_ _));refine blk_put (cs:=#[.int .i64 t354,.slice none 0 0]) ?_ 1 _ rfl;(with_reducible repeat (first|refine blk_drewN ?_ _|refine blk_drew ?_|refine blk_alloc ?_ _));refine blk_put (cs:=#[.int .i64 0,.slice none 0 0]) ?_ 0 _ rfl;(with_reducible repeat (first|refine blk_drewN ?_ _|refine blk_drew ?_|refine blk_alloc ?_ _));exact BK358.out) hb);have n8_:=Aside0.mk (below_step (by repeat (first|(with_reducible first|exact HB.out|apply below_alloc|apply pw_below_drewN|apply below_drew1|refine below_set ?_ GE338.out|refine below_set ?_ GE358.out)|exact HB.out)) hb);clear HO343 HO347 HO350 HO353 HO357 BK338 BK358 HB;have HO343:=n0_;have HO347:=n1_;have HO350:=n2_;have HO353:=n3_;have HO357:=n4_;have HO361:=n5_;have BK338:=n6_;have BK358:=n7_;have HB:=n8_;clear n0_ n1_ n2_ n3_ n4_ n5_ n6_ n7_ n8_;(try clear hb);(try clear hb2);(try clear hk);(try clear hi);(try clear ho0);obtain ⟨Ao172,co172,eo172⟩:=Kd.R_slice HO361.out;subst eo172;obtain ⟨Ao173,co173,eo173⟩:=Kd.R_slice HO350.out;subst eo173)|((with_reducible refine gate_callee (f:=26) rfl ?_);refine goesL_ (some 38) rfl rfl Tryd.func26 (by kernel_rfl) rfl #[.slice Ao172 t359.length co172,.slice Ao173 t348.length co173] rfl (by (try simp only [List.map_toArray,List.map_cons,List.map_nil]);first|done|rfl|(simp only [List.length_drop,List.length_take];rfl)) ?_;(with_reducible refine (laws_eqInt64S.calls k _ _ t359 _ _ t348 false _ ?side1 ?side2 ?side3 ?side4 A17.out).mono ?_);(case side1 => repeat (first|exact (Kd.R_reads' HO361.out).2.2|(with_reducible first|refine Kd.C_alloc ?_ _|refine Kd.C_drewN ?_ _|refine Kd.C_drew ?_)));(case side2 => exact (Kd.R_reads' HO361.out).2.1);(case side3 => repeat (first|exact (Kd.R_reads' HO350.out).2.2|(with_reducible first|refine Kd.C_alloc ?_ _|refine Kd.C_drewN ?_ _|refine Kd.C_drew ?_)));(case side4 => exact (Kd.R_reads' HO350.out).2.1);rintro e w' ⟨rfl,⟨nd,rfl⟩⟩;refine ⟨_,rfl,?_⟩))
    go_ret
    exact ⟨by first|rfl|(simp [errW_none,errW_some] <;> rfl)|(simp [*,errW_none,errW_some] <;> rfl),by repeat (first|(with_reducible first|exact HB.out|apply below_alloc|apply pw_below_drewN|apply below_drew1|refine below_set ?_ GE338.out|refine below_set ?_ GE358.out)|exact HB.out)⟩

end Go.Proofs.YtgfeafcgpeclcaaDoor.X
