/- Texts of this claim. (Merged out of this claim's own texts.) -/
import Derived.Test.YtgfeafcgpeclcaaDoorBFnExactStarts4
namespace Go.Proofs.YtgfeafcgpeclcaaDoor.X
open Go.RowKit Go.Proofs.YtgfeafcgpeclcaaDoorW.PrintWords Go.Proofs.YtgfeafcgpeclcaaDoorW.PrintLast Go.Proofs.YtgfeafcgpeclcaaDoorW.PrintMore
attribute [local go_sem] max2_int min2_int max_two min_two max_three min_three max_four min_four   -- for this text's walks alone
set_option linter.unusedVariables false
set_option linter.unusedSimpArgs false

set_option maxHeartbeats 8000000 in
set_option maxRecDepth 100000 in
theorem laws_FnExactStarts.calls (k : Nat) (A0 : Option Addr) (c0 : Nat) (l0 : List ByteArray) (a1_0 : Int) (A1_1 : Option Addr) (c1_1 : Nat) (l1_1 : List Int) (r : Bool) (w : World) (hr0 : Kd.C Kd.string w A0 l0.length l0) (hc0 : l0.length ≤ c0) (hr1_1 : Kd.C (Kd.int .i64) w A1_1 l1_1.length l1_1) (hc1_1 : l1_1.length ≤ c1_1) (h : laws_FnExactStarts.f k l0 a1_0 l1_1 = some r) :
  Calls Tryd.prog 4 #[.slice A0 l0.length c0,.agg #[.int .i64 a1_0,.slice A1_1 l1_1.length c1_1]] w fun e w' => e = .returned (.bool r)∧Below w.heap.size w w':=by
 have hu25:=Tryd.underlying25
 have hu30:=Tryd.underlying30
 have HR0:=Aside0.mk hr0
 have HC0:=Aside0.mk hc0
 clear hr0 hc0
 have HR1_1:=Aside0.mk hr1_1
 have HC1_1:=Aside0.mk hc1_1
 clear hr1_1 hc1_1
 have HB:=Aside0.mk (Below.refl w.heap.size w)
 have H : ((laws_szStringS.f k l0 1048576).bind fun t260 => (if t260 < 0 then (some true) else ((laws_szNursery.f a1_0 l1_1 t260).bind fun t261 => (if t261 < 0 then (some true) else ((laws_toStringS.f k l0).bind fun t262 => ((laws_toNursery.f k a1_0 l1_1).bind fun bt265 => ((spec_Starts.f k t262 bt265.1 bt265.2).bind fun t269 => ((laws_toStringS.f k l0).bind fun t272 => ((laws_toNursery.f k a1_0 l1_1).bind fun bt275 => ((impl_Starts.f k t272 bt275.1 bt275.2).bind fun t280 => ((laws_eqInt64S.f k t280 t269).bind fun t283 => (if t283 = true then ((laws_toStringS.f k l0).bind fun t284 => ((laws_eqStringS.f k t272 t284).bind fun t287 => (if t287 = true then ((laws_toNursery.f k a1_0 l1_1).bind fun bt288 => ((laws_eqNursery.f k bt275.1 bt275.2 bt288.1 bt288.2).bind fun t292 => (if t292 = true then ((laws_markStringS.f k t272 1).bind fun bt293 => ((laws_markNursery.f k bt275.1 bt275.2 bt293.1).bind fun bt295 => (if bt295.1 < 0 then (laws_FnExactStarts.j0 k l0 t269 t280 true a1_0 l1_1) else ((laws_eqInt64S.f k t280 t269).bind fun t297 => (laws_FnExactStarts.j0 k l0 t269 t280 (!t297) a1_0 l1_1))))) else (some false)))) else (some false)))) else (some false))))))))))))) = some r:=h
 clear h
 replace H:=Option.bind_eq_some_iff.mp H
 obtain ⟨t260,A30,H⟩:=H
 replace H : (if t260 < 0 then (some true) else ((laws_szNursery.f a1_0 l1_1 t260).bind fun t261 => (if t261 < 0 then (some true) else ((laws_toStringS.f k l0).bind fun t262 => ((laws_toNursery.f k a1_0 l1_1).bind fun bt265 => ((spec_Starts.f k t262 bt265.1 bt265.2).bind fun t269 => ((laws_toStringS.f k l0).bind fun t272 => ((laws_toNursery.f k a1_0 l1_1).bind fun bt275 => ((impl_Starts.f k t272 bt275.1 bt275.2).bind fun t280 => ((laws_eqInt64S.f k t280 t269).bind fun t283 => (if t283 = true then ((laws_toStringS.f k l0).bind fun t284 => ((laws_eqStringS.f k t272 t284).bind fun t287 => (if t287 = true then ((laws_toNursery.f k a1_0 l1_1).bind fun bt288 => ((laws_eqNursery.f k bt275.1 bt275.2 bt288.1 bt288.2).bind fun t292 => (if t292 = true then ((laws_markStringS.f k t272 1).bind fun bt293 => ((laws_markNursery.f k bt275.1 bt275.2 bt293.1).bind fun bt295 => (if bt295.1 < 0 then (laws_FnExactStarts.j0 k l0 t269 t280 true a1_0 l1_1) else ((laws_eqInt64S.f k t280 t269).bind fun t297 => (laws_FnExactStarts.j0 k l0 t269 t280 (!t297) a1_0 l1_1))))) else (some false)))) else (some false)))) else (some false)))))))))))) = some r:=H
 have A3:=Aside0.mk A30
 clear A30
 by_cases c4 : t260 < 0
 ·rw [if_pos c4] at H
  have c4b0 : decide (t260 < 0) = true:=decide_eq_true c4
  clear c4
  obtain rfl:=Option.some.inj H
  go_enter Tryd.func4,Tryd.ntmps4
  go_wp2_with (first|((with_reducible refine gate_dst (N:=3) rfl ?_);refine box_event ?hg (N:=3) ?hd (cs:=#[.int .i64 a1_0,.slice A1_1 l1_1.length c1_1]) (t:=25) ?hr ?_;(case hd => rfl);(case hg => rfl);(case hr => first|(go_simp;done)|(go_simp;rfl));intro gb259 hg w5 hbox hb;have n0_:=Aside0.mk (below_step (by repeat (first|(with_reducible first|exact HB.out|apply below_alloc|apply pw_below_drewN|apply below_drew1)|exact HB.out)) hb);have n1_:=Aside0.mk (hbox);have n2_:=Aside0.mk ((by rw [hg];exact (below_size (by repeat (first|(with_reducible first|exact HB.out|apply below_alloc|apply pw_below_drewN|apply below_drew1)|exact HB.out))) : w.heap.size ≤ gb259));have n3_:=Aside0.mk ((by rw [hg];exact (below_size (by repeat (first|(with_reducible first|exact HB.out|apply below_alloc|apply pw_below_drewN|apply below_drew1)|exact HB.out))) : w.heap.size ≤ gb259));clear HB;have HB:=n0_;have BK259:=n1_;have GW259:=n2_;have GE259:=n3_;clear n0_ n1_ n2_ n3_;clear hb hbox hg)|((with_reducible refine gate_callee (f:=16) rfl ?_);refine goesL_ (some 16) rfl rfl Tryd.func16 (by kernel_rfl) rfl #[.slice A0 l0.length c0,.int .i64 1048576] rfl (by (try simp only [List.map_toArray,List.map_cons,List.map_nil]);first|done|rfl|(simp only [List.length_drop,List.length_take];rfl)) ?_;(with_reducible refine (laws_szStringS.calls k _ _ l0 1048576 t260 _ ?side1 ?side2 A3.out).mono ?_);(case side1 => repeat (first|exact (Kd.C_below HR0.out HB.out)|(with_reducible first|refine Kd.C_alloc ?_ _|refine Kd.C_drewN ?_ _|refine Kd.C_drew ?_)));(case side2 => exact HC0.out);rintro e w' ⟨rfl,⟨nd,rfl⟩⟩;refine ⟨_,rfl,?_⟩))
  go_ret
  exact ⟨by first|rfl|(simp [errW_none,errW_some] <;> rfl)|(simp [*,errW_none,errW_some] <;> rfl),by repeat (first|(with_reducible first|exact HB.out|apply below_alloc|apply pw_below_drewN|apply below_drew1|refine below_set ?_ GE259.out)|exact HB.out)⟩
 ·rw [if_neg c4] at H
  have c4b0 : decide (t260 < 0) = false:=decide_eq_false c4
  clear c4
  replace H:=Option.bind_eq_some_iff.mp H
  obtain ⟨t261,A60,H⟩:=H
  replace H : (if t261 < 0 then (some true) else ((laws_toStringS.f k l0).bind fun t262 => ((laws_toNursery.f k a1_0 l1_1).bind fun bt265 => ((spec_Starts.f k t262 bt265.1 bt265.2).bind fun t269 => ((laws_toStringS.f k l0).bind fun t272 => ((laws_toNursery.f k a1_0 l1_1).bind fun bt275 => ((impl_Starts.f k t272 bt275.1 bt275.2).bind fun t280 => ((laws_eqInt64S.f k t280 t269).bind fun t283 => (if t283 = true then ((laws_toStringS.f k l0).bind fun t284 => ((laws_eqStringS.f k t272 t284).bind fun t287 => (if t287 = true then ((laws_toNursery.f k a1_0 l1_1).bind fun bt288 => ((laws_eqNursery.f k bt275.1 bt275.2 bt288.1 bt288.2).bind fun t292 => (if t292 = true then ((laws_markStringS.f k t272 1).bind fun bt293 => ((laws_markNursery.f k bt275.1 bt275.2 bt293.1).bind fun bt295 => (if bt295.1 < 0 then (laws_FnExactStarts.j0 k l0 t269 t280 true a1_0 l1_1) else ((laws_eqInt64S.f k t280 t269).bind fun t297 => (laws_FnExactStarts.j0 k l0 t269 t280 (!t297) a1_0 l1_1))))) else (some false)))) else (some false)))) else (some false)))))))))) = some r:=H
  have A6:=Aside0.mk A60
  clear A60
  by_cases c7 : t261 < 0
  ·rw [if_pos c7] at H
   have c7b0 : decide (t261 < 0) = true:=decide_eq_true c7
   clear c7
   obtain rfl:=Option.some.inj H
   go_enter Tryd.func4,Tryd.ntmps4
   go_wp2_with (first|((with_reducible refine gate_dst (N:=3) rfl ?_);refine box_event ?hg (N:=3) ?hd (cs:=#[.int .i64 a1_0,.slice A1_1 l1_1.length c1_1]) (t:=25) ?hr ?_;(case hd => rfl);(case hg => rfl);(case hr => first|(go_simp;done)|(go_simp;rfl));intro gb259 hg w8 hbox hb;have n0_:=Aside0.mk (below_step (by repeat (first|(with_reducible first|exact HB.out|apply below_alloc|apply pw_below_drewN|apply below_drew1)|exact HB.out)) hb);have n1_:=Aside0.mk (hbox);have n2_:=Aside0.mk ((by rw [hg];exact (below_size (by repeat (first|(with_reducible first|exact HB.out|apply below_alloc|apply pw_below_drewN|apply below_drew1)|exact HB.out))) : w.heap.size ≤ gb259));have n3_:=Aside0.mk ((by rw [hg];exact (below_size (by repeat (first|(with_reducible first|exact HB.out|apply below_alloc|apply pw_below_drewN|apply below_drew1)|exact HB.out))) : w.heap.size ≤ gb259));clear HB;have HB:=n0_;have BK259:=n1_;have GW259:=n2_;have GE259:=n3_;clear n0_ n1_ n2_ n3_;clear hb hbox hg)|((with_reducible refine gate_callee (f:=16) rfl ?_);refine goesL_ (some 16) rfl rfl Tryd.func16 (by kernel_rfl) rfl #[.slice A0 l0.length c0,.int .i64 1048576] rfl (by (try simp only [List.map_toArray,List.map_cons,List.map_nil]);first|done|rfl|(simp only [List.length_drop,List.length_take];rfl)) ?_;(with_reducible refine (laws_szStringS.calls k _ _ l0 1048576 t260 _ ?side1 ?side2 A3.out).mono ?_);(case side1 => repeat (first|exact (Kd.C_below HR0.out HB.out)|(with_reducible first|refine Kd.C_alloc ?_ _|refine Kd.C_drewN ?_ _|refine Kd.C_drew ?_)));(case side2 => exact HC0.out);rintro e w' ⟨rfl,⟨nd,rfl⟩⟩;refine ⟨_,rfl,?_⟩;have hcz9_0 : w8.cell? ⟨gb259,0,none⟩ = some (.int .i64 a1_0):=(blk_cell BK259.out 0).trans rfl;have hcz9_1 : w8.cell? ⟨gb259,1,none⟩ = some (.slice A1_1 l1_1.length c1_1):=(blk_cell BK259.out 1).trans rfl;have hfz9_0:=blk_frozen BK259.out 0;have hfz9_1:=blk_frozen BK259.out 1)|((with_reducible refine gate_callee (f:=17) rfl ?_);refine goesL_ (some 21) rfl rfl Tryd.func17 (by kernel_rfl) rfl #[.agg #[.int .i64 a1_0,.slice A1_1 l1_1.length c1_1],.int .i64 t260] rfl (by (try simp only [List.map_toArray,List.map_cons,List.map_nil]);first|done|rfl|(simp only [List.length_drop,List.length_take];rfl)) ?_;(with_reducible refine (laws_szNursery.calls a1_0 _ _ l1_1 t260 t261 _ ?side1 ?side2 A6.out).mono ?_);(case side1 => repeat (first|exact (Kd.C_below HR1_1.out (by repeat (first|(with_reducible first|exact HB.out|apply below_alloc|apply pw_below_drewN|apply below_drew1|refine below_set ?_ GE259.out)|exact HB.out)))|(with_reducible first|refine Kd.C_alloc ?_ _|refine Kd.C_drewN ?_ _|refine Kd.C_drew ?_)));(case side2 => exact HC1_1.out);rintro e w10 ⟨rfl,hb⟩;refine ⟨_,rfl,?_⟩;have n0_:=Aside0.mk (blk_below (g:=gb259) (o:=.cells #[.int .i64 a1_0,.slice A1_1 l1_1.length c1_1] 25 (0,0)) (by (with_reducible repeat (first|refine blk_drewN ?_ _|refine blk_drew ?_|refine blk_alloc ?_ _));exact BK259.out) hb);have n1_:=Aside0.mk (below_step (by repeat (first|(with_reducible first|exact HB.out|apply below_alloc|apply pw_below_drewN|apply below_drew1|refine below_set ?_ GE259.out)|exact HB.out)) hb);clear BK259 HB;have BK259:=n0_;have HB:=n1_;clear n0_ n1_;(try clear hb);(try clear hb2);(try clear hk);(try clear hi)))
   go_ret
   exact ⟨by first|rfl|(simp [errW_none,errW_some] <;> rfl)|(simp [*,errW_none,errW_some] <;> rfl),by repeat (first|(with_reducible first|exact HB.out|apply below_alloc|apply pw_below_drewN|apply below_drew1|refine below_set ?_ GE259.out)|exact HB.out)⟩
  ·rw [if_neg c7] at H
   have c7b0 : decide (t261 < 0) = false:=decide_eq_false c7
   clear c7
   replace H:=Option.bind_eq_some_iff.mp H
   obtain ⟨t262,A110,H⟩:=H
   replace H : ((laws_toNursery.f k a1_0 l1_1).bind fun bt265 => ((spec_Starts.f k t262 bt265.1 bt265.2).bind fun t269 => ((laws_toStringS.f k l0).bind fun t272 => ((laws_toNursery.f k a1_0 l1_1).bind fun bt275 => ((impl_Starts.f k t272 bt275.1 bt275.2).bind fun t280 => ((laws_eqInt64S.f k t280 t269).bind fun t283 => (if t283 = true then ((laws_toStringS.f k l0).bind fun t284 => ((laws_eqStringS.f k t272 t284).bind fun t287 => (if t287 = true then ((laws_toNursery.f k a1_0 l1_1).bind fun bt288 => ((laws_eqNursery.f k bt275.1 bt275.2 bt288.1 bt288.2).bind fun t292 => (if t292 = true then ((laws_markStringS.f k t272 1).bind fun bt293 => ((laws_markNursery.f k bt275.1 bt275.2 bt293.1).bind fun bt295 => (if bt295.1 < 0 then (laws_FnExactStarts.j0 k l0 t269 t280 true a1_0 l1_1) else ((laws_eqInt64S.f k t280 t269).bind fun t297 => (laws_FnExactStarts.j0 k l0 t269 t280 (!t297) a1_0 l1_1))))) else (some false)))) else (some false)))) else (some false)))))))) = some r:=H
   have A11:=Aside0.mk A110
   clear A110
   replace H:=Option.bind_eq_some_iff.mp H
   obtain ⟨⟨t265,t266⟩,A120,H⟩:=H
   replace H : ((spec_Starts.f k t262 t265 t266).bind fun t269 => ((laws_toStringS.f k l0).bind fun t272 => ((laws_toNursery.f k a1_0 l1_1).bind fun bt275 => ((impl_Starts.f k t272 bt275.1 bt275.2).bind fun t280 => ((laws_eqInt64S.f k t280 t269).bind fun t283 => (if t283 = true then ((laws_toStringS.f k l0).bind fun t284 => ((laws_eqStringS.f k t272 t284).bind fun t287 => (if t287 = true then ((laws_toNursery.f k a1_0 l1_1).bind fun bt288 => ((laws_eqNursery.f k bt275.1 bt275.2 bt288.1 bt288.2).bind fun t292 => (if t292 = true then ((laws_markStringS.f k t272 1).bind fun bt293 => ((laws_markNursery.f k bt275.1 bt275.2 bt293.1).bind fun bt295 => (if bt295.1 < 0 then (laws_FnExactStarts.j0 k l0 t269 t280 true a1_0 l1_1) else ((laws_eqInt64S.f k t280 t269).bind fun t297 => (laws_FnExactStarts.j0 k l0 t269 t280 (!t297) a1_0 l1_1))))) else (some false)))) else (some false)))) else (some false))))))) = some r:=H
   have A12:=Aside0.mk A120
   clear A120
   replace H:=Option.bind_eq_some_iff.mp H
   obtain ⟨t269,A130,H⟩:=H
   replace H : ((laws_toStringS.f k l0).bind fun t272 => ((laws_toNursery.f k a1_0 l1_1).bind fun bt275 => ((impl_Starts.f k t272 bt275.1 bt275.2).bind fun t280 => ((laws_eqInt64S.f k t280 t269).bind fun t283 => (if t283 = true then ((laws_toStringS.f k l0).bind fun t284 => ((laws_eqStringS.f k t272 t284).bind fun t287 => (if t287 = true then ((laws_toNursery.f k a1_0 l1_1).bind fun bt288 => ((laws_eqNursery.f k bt275.1 bt275.2 bt288.1 bt288.2).bind fun t292 => (if t292 = true then ((laws_markStringS.f k t272 1).bind fun bt293 => ((laws_markNursery.f k bt275.1 bt275.2 bt293.1).bind fun bt295 => (if bt295.1 < 0 then (laws_FnExactStarts.j0 k l0 t269 t280 true a1_0 l1_1) else ((laws_eqInt64S.f k t280 t269).bind fun t297 => (laws_FnExactStarts.j0 k l0 t269 t280 (!t297) a1_0 l1_1))))) else (some false)))) else (some false)))) else (some false)))))) = some r:=H
   have A13:=Aside0.mk A130
   clear A130
   replace H:=Option.bind_eq_some_iff.mp H
   obtain ⟨t272,A140,H⟩:=H
   replace H : ((laws_toNursery.f k a1_0 l1_1).bind fun bt275 => ((impl_Starts.f k t272 bt275.1 bt275.2).bind fun t280 => ((laws_eqInt64S.f k t280 t269).bind fun t283 => (if t283 = true then ((laws_toStringS.f k l0).bind fun t284 => ((laws_eqStringS.f k t272 t284).bind fun t287 => (if t287 = true then ((laws_toNursery.f k a1_0 l1_1).bind fun bt288 => ((laws_eqNursery.f k bt275.1 bt275.2 bt288.1 bt288.2).bind fun t292 => (if t292 = true then ((laws_markStringS.f k t272 1).bind fun bt293 => ((laws_markNursery.f k bt275.1 bt275.2 bt293.1).bind fun bt295 => (if bt295.1 < 0 then (laws_FnExactStarts.j0 k l0 t269 t280 true a1_0 l1_1) else ((laws_eqInt64S.f k t280 t269).bind fun t297 => (laws_FnExactStarts.j0 k l0 t269 t280 (!t297) a1_0 l1_1))))) else (some false)))) else (some false)))) else (some false))))) = some r:=H
   have A14:=Aside0.mk A140
   clear A140
   replace H:=Option.bind_eq_some_iff.mp H
   obtain ⟨⟨t275,t276⟩,A150,H⟩:=H
   replace H : ((impl_Starts.f k t272 t275 t276).bind fun t280 => ((laws_eqInt64S.f k t280 t269).bind fun t283 => (if t283 = true then ((laws_toStringS.f k l0).bind fun t284 => ((laws_eqStringS.f k t272 t284).bind fun t287 => (if t287 = true then ((laws_toNursery.f k a1_0 l1_1).bind fun bt288 => ((laws_eqNursery.f k t275 t276 bt288.1 bt288.2).bind fun t292 => (if t292 = true then ((laws_markStringS.f k t272 1).bind fun bt293 => ((laws_markNursery.f k t275 t276 bt293.1).bind fun bt295 => (if bt295.1 < 0 then (laws_FnExactStarts.j0 k l0 t269 t280 true a1_0 l1_1) else ((laws_eqInt64S.f k t280 t269).bind fun t297 => (laws_FnExactStarts.j0 k l0 t269 t280 (!t297) a1_0 l1_1))))) else (some false)))) else (some false)))) else (some false)))) = some r:=H
   have A15:=Aside0.mk A150
   clear A150
   replace H:=Option.bind_eq_some_iff.mp H
   obtain ⟨t280,A160,H⟩:=H
   replace H : ((laws_eqInt64S.f k t280 t269).bind fun t283 => (if t283 = true then ((laws_toStringS.f k l0).bind fun t284 => ((laws_eqStringS.f k t272 t284).bind fun t287 => (if t287 = true then ((laws_toNursery.f k a1_0 l1_1).bind fun bt288 => ((laws_eqNursery.f k t275 t276 bt288.1 bt288.2).bind fun t292 => (if t292 = true then ((laws_markStringS.f k t272 1).bind fun bt293 => ((laws_markNursery.f k t275 t276 bt293.1).bind fun bt295 => (if bt295.1 < 0 then (laws_FnExactStarts.j0 k l0 t269 t280 true a1_0 l1_1) else ((laws_eqInt64S.f k t280 t269).bind fun t297 => (laws_FnExactStarts.j0 k l0 t269 t280 (!t297) a1_0 l1_1))))) else (some false)))) else (some false)))) else (some false))) = some r:=H
   have A16:=Aside0.mk A160
   clear A160
   replace H:=Option.bind_eq_some_iff.mp H
   obtain ⟨t283,A170,H⟩:=H
   replace H : (if t283 = true then ((laws_toStringS.f k l0).bind fun t284 => ((laws_eqStringS.f k t272 t284).bind fun t287 => (if t287 = true then ((laws_toNursery.f k a1_0 l1_1).bind fun bt288 => ((laws_eqNursery.f k t275 t276 bt288.1 bt288.2).bind fun t292 => (if t292 = true then ((laws_markStringS.f k t272 1).bind fun bt293 => ((laws_markNursery.f k t275 t276 bt293.1).bind fun bt295 => (if bt295.1 < 0 then (laws_FnExactStarts.j0 k l0 t269 t280 true a1_0 l1_1) else ((laws_eqInt64S.f k t280 t269).bind fun t297 => (laws_FnExactStarts.j0 k l0 t269 t280 (!t297) a1_0 l1_1))))) else (some false)))) else (some false)))) else (some false)) = some r:=H
   have A17:=Aside0.mk A170
   clear A170
   by_cases c18 : t283 = true
   ·subst c18
    have H1 : ((laws_toStringS.f k l0).bind fun t284 => ((laws_eqStringS.f k t272 t284).bind fun t287 => (if t287 = true then ((laws_toNursery.f k a1_0 l1_1).bind fun bt288 => ((laws_eqNursery.f k t275 t276 bt288.1 bt288.2).bind fun t292 => (if t292 = true then ((laws_markStringS.f k t272 1).bind fun bt293 => ((laws_markNursery.f k t275 t276 bt293.1).bind fun bt295 => (if bt295.1 < 0 then (laws_FnExactStarts.j0 k l0 t269 t280 true a1_0 l1_1) else ((laws_eqInt64S.f k t280 t269).bind fun t297 => (laws_FnExactStarts.j0 k l0 t269 t280 (!t297) a1_0 l1_1))))) else (some false)))) else (some false)))) = some r:=by rw [if_pos rfl] at H;exact H
    clear H
    have H:=H1
    clear H1
    replace H:=Option.bind_eq_some_iff.mp H
    obtain ⟨t284,A190,H⟩:=H
    replace H : ((laws_eqStringS.f k t272 t284).bind fun t287 => (if t287 = true then ((laws_toNursery.f k a1_0 l1_1).bind fun bt288 => ((laws_eqNursery.f k t275 t276 bt288.1 bt288.2).bind fun t292 => (if t292 = true then ((laws_markStringS.f k t272 1).bind fun bt293 => ((laws_markNursery.f k t275 t276 bt293.1).bind fun bt295 => (if bt295.1 < 0 then (laws_FnExactStarts.j0 k l0 t269 t280 true a1_0 l1_1) else ((laws_eqInt64S.f k t280 t269).bind fun t297 => (laws_FnExactStarts.j0 k l0 t269 t280 (!t297) a1_0 l1_1))))) else (some false)))) else (some false))) = some r:=H
    have A19:=Aside0.mk A190
    clear A190
    replace H:=Option.bind_eq_some_iff.mp H
    obtain ⟨t287,A200,H⟩:=H
    replace H : (if t287 = true then ((laws_toNursery.f k a1_0 l1_1).bind fun bt288 => ((laws_eqNursery.f k t275 t276 bt288.1 bt288.2).bind fun t292 => (if t292 = true then ((laws_markStringS.f k t272 1).bind fun bt293 => ((laws_markNursery.f k t275 t276 bt293.1).bind fun bt295 => (if bt295.1 < 0 then (laws_FnExactStarts.j0 k l0 t269 t280 true a1_0 l1_1) else ((laws_eqInt64S.f k t280 t269).bind fun t297 => (laws_FnExactStarts.j0 k l0 t269 t280 (!t297) a1_0 l1_1))))) else (some false)))) else (some false)) = some r:=H
    have A20:=Aside0.mk A200
    clear A200
    by_cases c21 : t287 = true
    ·subst c21
     have H1 : ((laws_toNursery.f k a1_0 l1_1).bind fun bt288 => ((laws_eqNursery.f k t275 t276 bt288.1 bt288.2).bind fun t292 => (if t292 = true then ((laws_markStringS.f k t272 1).bind fun bt293 => ((laws_markNursery.f k t275 t276 bt293.1).bind fun bt295 => (if bt295.1 < 0 then (laws_FnExactStarts.j0 k l0 t269 t280 true a1_0 l1_1) else ((laws_eqInt64S.f k t280 t269).bind fun t297 => (laws_FnExactStarts.j0 k l0 t269 t280 (!t297) a1_0 l1_1))))) else (some false)))) = some r:=by rw [if_pos rfl] at H;exact H
     clear H
     have H:=H1
     clear H1
     replace H:=Option.bind_eq_some_iff.mp H
     obtain ⟨⟨t288,t289⟩,A220,H⟩:=H
     replace H : ((laws_eqNursery.f k t275 t276 t288 t289).bind fun t292 => (if t292 = true then ((laws_markStringS.f k t272 1).bind fun bt293 => ((laws_markNursery.f k t275 t276 bt293.1).bind fun bt295 => (if bt295.1 < 0 then (laws_FnExactStarts.j0 k l0 t269 t280 true a1_0 l1_1) else ((laws_eqInt64S.f k t280 t269).bind fun t297 => (laws_FnExactStarts.j0 k l0 t269 t280 (!t297) a1_0 l1_1))))) else (some false))) = some r:=H
     have A22:=Aside0.mk A220
     clear A220
     replace H:=Option.bind_eq_some_iff.mp H
     obtain ⟨t292,A230,H⟩:=H
     replace H : (if t292 = true then ((laws_markStringS.f k t272 1).bind fun bt293 => ((laws_markNursery.f k t275 t276 bt293.1).bind fun bt295 => (if bt295.1 < 0 then (laws_FnExactStarts.j0 k l0 t269 t280 true a1_0 l1_1) else ((laws_eqInt64S.f k t280 t269).bind fun t297 => (laws_FnExactStarts.j0 k l0 t269 t280 (!t297) a1_0 l1_1))))) else (some false)) = some r:=H
     have A23:=Aside0.mk A230
     clear A230
     by_cases c24 : t292 = true
     ·subst c24
      have H1 : ((laws_markStringS.f k t272 1).bind fun bt293 => ((laws_markNursery.f k t275 t276 bt293.1).bind fun bt295 => (if bt295.1 < 0 then (laws_FnExactStarts.j0 k l0 t269 t280 true a1_0 l1_1) else ((laws_eqInt64S.f k t280 t269).bind fun t297 => (laws_FnExactStarts.j0 k l0 t269 t280 (!t297) a1_0 l1_1))))) = some r:=by rw [if_pos rfl] at H;exact H
      clear H
      have H:=H1
      clear H1
      replace H:=Option.bind_eq_some_iff.mp H
      obtain ⟨⟨t293,t294⟩,A250,H⟩:=H
      replace H : ((laws_markNursery.f k t275 t276 t293).bind fun bt295 => (if bt295.1 < 0 then (laws_FnExactStarts.j0 k l0 t269 t280 true a1_0 l1_1) else ((laws_eqInt64S.f k t280 t269).bind fun t297 => (laws_FnExactStarts.j0 k l0 t269 t280 (!t297) a1_0 l1_1)))) = some r:=H
      have A25:=Aside0.mk A250
      clear A250
      replace H:=Option.bind_eq_some_iff.mp H
      obtain ⟨⟨t295,t296⟩,A260,H⟩:=H
      replace H : (if t295 < 0 then (laws_FnExactStarts.j0 k l0 t269 t280 true a1_0 l1_1) else ((laws_eqInt64S.f k t280 t269).bind fun t297 => (laws_FnExactStarts.j0 k l0 t269 t280 (!t297) a1_0 l1_1))) = some r:=H
      have A26:=Aside0.mk A260
      clear A260
      have HC27:=Aside0.mk H
      clear H
      go_enter Tryd.func4,Tryd.ntmps4
      try go_wp2_with (first|((with_reducible refine gate_dst (N:=3) rfl ?_);refine box_event ?hg (N:=3) ?hd (cs:=#[.int .i64 a1_0,.slice A1_1 l1_1.length c1_1]) (t:=25) ?hr ?_;(case hd => rfl);(case hg => rfl);(case hr => first|(go_simp;done)|(go_simp;rfl));intro gb259 hg w28 hbox hb;have n0_:=Aside0.mk (below_step (by repeat (first|(with_reducible first|exact HB.out|apply below_alloc|apply pw_below_drewN|apply below_drew1)|exact HB.out)) hb);have n1_:=Aside0.mk (hbox);have n2_:=Aside0.mk ((by rw [hg];exact (below_size (by repeat (first|(with_reducible first|exact HB.out|apply below_alloc|apply pw_below_drewN|apply below_drew1)|exact HB.out))) : w.heap.size ≤ gb259));have n3_:=Aside0.mk ((by rw [hg];exact (below_size (by repeat (first|(with_reducible first|exact HB.out|apply below_alloc|apply pw_below_drewN|apply below_drew1)|exact HB.out))) : w.heap.size ≤ gb259));clear HB;have HB:=n0_;have BK259:=n1_;have GW259:=n2_;have GE259:=n3_;clear n0_ n1_ n2_ n3_;clear hb hbox hg)|((with_reducible refine gate_callee (f:=16) rfl ?_);refine goesL_ (some 16) rfl rfl Tryd.func16 (by kernel_rfl) rfl #[.slice A0 l0.length c0,.int .i64 1048576] rfl (by (try simp only [List.map_toArray,List.map_cons,List.map_nil]);first|done|rfl|(simp only [List.length_drop,List.length_take];rfl)) ?_;(with_reducible refine (laws_szStringS.calls k _ _ l0 1048576 t260 _ ?side1 ?side2 A3.out).mono ?_);(case side1 => repeat (first|exact (Kd.C_below HR0.out HB.out)|(with_reducible first|refine Kd.C_alloc ?_ _|refine Kd.C_drewN ?_ _|refine Kd.C_drew ?_)));(case side2 => exact HC0.out);rintro e w' ⟨rfl,⟨nd,rfl⟩⟩;refine ⟨_,rfl,?_⟩;(try (rw [drewN_self w28];generalize hq_ : World.drewN w28 _ = w28;have n0_ : Aside0 (w28.heap[gb259]? = some (.cells #[.int .i64 a1_0,.slice A1_1 l1_1.length c1_1] 25 (0,0))):=⟨by rw [← hq_];exact (by (with_reducible repeat (first|refine blk_drewN ?_ _|refine blk_drew ?_|refine blk_alloc ?_ _));exact BK259.out)⟩;have n1_ : Aside0 (Below w.heap.size w w28):=⟨by rw [← hq_];exact (by repeat (first|(with_reducible first|exact HB.out|apply below_alloc|apply pw_below_drewN|apply below_drew1|refine below_set ?_ GE259.out)|exact HB.out))⟩;clear BK259 HB hq_;have BK259:=n0_;have HB:=n1_;clear n0_ n1_));have hcz29_0 : w28.cell? ⟨gb259,0,none⟩ = some (.int .i64 a1_0):=(blk_cell BK259.out 0).trans rfl;have hcz29_1 : w28.cell? ⟨gb259,1,none⟩ = some (.slice A1_1 l1_1.length c1_1):=(blk_cell BK259.out 1).trans rfl;have hfz29_0:=blk_frozen BK259.out 0;have hfz29_1:=blk_frozen BK259.out 1)|((with_reducible refine gate_callee (f:=17) rfl ?_);refine goesL_ (some 21) rfl rfl Tryd.func17 (by kernel_rfl) rfl #[.agg #[.int .i64 a1_0,.slice A1_1 l1_1.length c1_1],.int .i64 t260] rfl (by (try simp only [List.map_toArray,List.map_cons,List.map_nil]);first|done|rfl|(simp only [List.length_drop,List.length_take];rfl)) ?_;(with_reducible refine (laws_szNursery.calls a1_0 _ _ l1_1 t260 t261 _ ?side1 ?side2 A6.out).mono ?_);(case side1 => repeat (first|exact (Kd.C_below HR1_1.out HB.out)|(with_reducible first|refine Kd.C_alloc ?_ _|refine Kd.C_drewN ?_ _|refine Kd.C_drew ?_)));(case side2 => exact HC1_1.out);rintro e w30 ⟨rfl,hb⟩;refine ⟨_,rfl,?_⟩;have n0_:=Aside0.mk (blk_below (g:=gb259) (o:=.cells #[.int .i64 a1_0,.slice A1_1 l1_1.length c1_1] 25 (0,0)) (by (with_reducible repeat (first|refine blk_drewN ?_ _|refine blk_drew ?_|refine blk_alloc ?_ _));exact BK259.out) hb);have n1_:=Aside0.mk (below_step (by repeat (first|(with_reducible first|exact HB.out|apply below_alloc|apply pw_below_drewN|apply below_drew1|refine below_set ?_ GE259.out)|exact HB.out)) hb);clear BK259 HB;have BK259:=n0_;have HB:=n1_;clear n0_ n1_;(try clear hb);(try clear hb2);(try clear hk);(try clear hi)))
      have n0_:=Aside0.mk (blk_drew BK259.out)
      have n1_:=Aside0.mk (below_drew1 HB.out)
      clear BK259
      clear HB
      have BK259:=n0_
      have HB:=n1_
      clear n0_ n1_
      refine start_ (n:=6) (S:=fun w' => w'.cell? ⟨gb259,0,none⟩ = some (.int .i64 a1_0)∧w'.cell? ⟨gb259,1,none⟩ = some (.slice A1_1 l1_1.length c1_1)) (ds:=[]) #[false,false,false,false,false,false] (by kernel_rfl) rfl rfl ⟨(blk_cell BK259.out 0).trans rfl,(blk_cell BK259.out 1).trans rfl⟩ (fun hHeld => ?_)
      generalize w30.drew = w31 at BK259 HB hHeld ⊢
      refine pure_ (i:=0) (N:=some 24) (v:=?_) (a':=?_) #[true,false,false,false,false,false] rfl rfl (by kernel_rfl) (fun _ _ _ h => h) (Or.inl ⟨by rfl,?_⟩) ?_ ?_
      rotate_left
      ·intro w'
       go_simp
       with_reducible rfl
      rotate_left
      ·simp only [Act.put,List.setIfInBounds_toArray,List.set_cons_zero,List.set_cons_succ,i64_w,i32_w]
       rfl
      refine take_ (i:=2) (N:=some 26) (v:=?_) (a':=?_) #[true,false,true,false,false,false] rfl rfl (by kernel_rfl) (fun _ _ _ h => h) (Or.inl ⟨by rfl,?_⟩) hHeld ?_ ?_
      rotate_left
      ·rintro w' ⟨s0,s1⟩
       go_simp
       with_reducible rfl
      rotate_left
      ·simp only [Act.put,List.setIfInBounds_toArray,List.set_cons_zero,List.set_cons_succ,i64_w,i32_w]
       rfl
      refine one_ (i:=1) (N:=some 25) #[true,true,true,false,false,false] rfl rfl (by kernel_rfl) (by decide) (fun K hK => ?_)
      refine goes_ Tryd.func19 (by kernel_rfl) rfl #[.slice A0 l0.length c0] (by rfl) rfl rfl (by (try simp only [List.map_toArray,List.map_cons,List.map_nil]);first|done|rfl|(simp only [List.length_drop,List.length_take];rfl)) ?_
      with_reducible refine (laws_toStringS.calls k _ _ l0 t262 _ ?side1 ?side2 A11.out).mono ?_
      (case side1 => repeat (first|exact (Kd.C_below HR0.out HB.out)|(with_reducible first|refine Kd.C_alloc ?_ _|refine Kd.C_drewN ?_ _|refine Kd.C_drew ?_)))
      (case side2 => exact HC0.out)
      rintro e w32 ⟨v263,rfl,ho0,hb⟩
      refine ⟨_,rfl,?_⟩
      have n0_:=Aside0.mk (Kd.R_lower ho0 (below_size (by repeat (first|(with_reducible first|exact HB.out|apply below_alloc|apply pw_below_drewN|apply below_drew1|refine below_set ?_ GE259.out)|exact HB.out))))
      have n1_:=Aside0.mk (blk_below (g:=gb259) (o:=.cells #[.int .i64 a1_0,.slice A1_1 l1_1.length c1_1] 25 (0,0)) (by (with_reducible repeat (first|refine blk_drewN ?_ _|refine blk_drew ?_|refine blk_alloc ?_ _));exact BK259.out) hb)
      have n2_:=Aside0.mk (below_step (by repeat (first|(with_reducible first|exact HB.out|apply below_alloc|apply pw_below_drewN|apply below_drew1|refine below_set ?_ GE259.out)|exact HB.out)) hb)
      clear BK259
      clear HB
      have HO264:=n0_
      have BK259:=n1_
      have HB:=n2_
      clear n0_ n1_ n2_
      (try clear hb)
      (try clear hb2)
      (try clear hk)
      (try clear hi)
      (try clear ho0)
      refine hK.out _ _ ⟨(blk_cell BK259.out 0).trans rfl,(blk_cell BK259.out 1).trans rfl⟩ (fun hHeld => ?_)
      clear hK K
      refine norm_ (a':=?_) ?_ ?_
      rotate_left
      ·show Act.put _ (some 25) _ = _
       simp only [Act.put,List.setIfInBounds_toArray,List.set_cons_zero,List.set_cons_succ,i64_w,i32_w]
       rfl
      refine one_ (i:=3) (N:=some 27) #[true,true,true,true,false,false] rfl rfl (by kernel_rfl) (by decide) (fun K hK => ?_)
      refine goes_ Tryd.func20 (by kernel_rfl) rfl #[.agg #[.int .i64 a1_0,.slice A1_1 l1_1.length c1_1]] (by rfl) rfl rfl (by (try simp only [List.map_toArray,List.map_cons,List.map_nil]);first|done|rfl|(simp only [List.length_drop,List.length_take];rfl)) ?_
      with_reducible refine (laws_toNursery.calls k a1_0 _ _ l1_1 t265 t266 _ ?side1 ?side2 A12.out).mono ?_
      (case side1 => repeat (first|exact (Kd.C_below HR1_1.out HB.out)|(with_reducible first|refine Kd.C_alloc ?_ _|refine Kd.C_drewN ?_ _|refine Kd.C_drew ?_)))
      (case side2 => exact HC1_1.out)
      rintro e w33 ⟨v267,rfl,ho0,hb⟩
      refine ⟨_,rfl,?_⟩
      have n0_:=Aside0.mk (Kd.R_below (by (with_reducible repeat (first|apply Kd.R_alloc|apply Kd.R_drewN|apply Kd.R_drew));exact HO264.out) hb)
      have n1_:=Aside0.mk (Kd.R_lower ho0 (below_size (by repeat (first|(with_reducible first|exact HB.out|apply below_alloc|apply pw_below_drewN|apply below_drew1|refine below_set ?_ GE259.out)|exact HB.out))))
      have n2_:=Aside0.mk (blk_below (g:=gb259) (o:=.cells #[.int .i64 a1_0,.slice A1_1 l1_1.length c1_1] 25 (0,0)) (by (with_reducible repeat (first|refine blk_drewN ?_ _|refine blk_drew ?_|refine blk_alloc ?_ _));exact BK259.out) hb)
      have n3_:=Aside0.mk (below_step (by repeat (first|(with_reducible first|exact HB.out|apply below_alloc|apply pw_below_drewN|apply below_drew1|refine below_set ?_ GE259.out)|exact HB.out)) hb)
      clear HO264
      clear BK259
      clear HB
      have HO264:=n0_
      have HO268:=n1_
      have BK259:=n2_
      have HB:=n3_
      clear n0_ n1_ n2_ n3_
      (try clear hb)
      (try clear hb2)
      (try clear hk)
      (try clear hi)
      (try clear ho0)
      obtain ⟨Ao34,co34,eo34⟩:=Kd.R_slice HO264.out
      (first|subst eo34|(injection eo34 with f1_ f2_ f3_;have f4_:=f1_.symm;have f5_:=f3_.symm;clear f1_ f2_ f3_;subst f4_;subst f5_))
      obtain ⟨Ao35,co35,eo35⟩:=Kd.R_slice HO268.out
      (first|subst eo35|(injection eo35 with f1_ f2_ f3_;have f4_:=f1_.symm;have f5_:=f3_.symm;clear f1_ f2_ f3_;subst f4_;subst f5_))
      refine hK.out _ _ ⟨(blk_cell BK259.out 0).trans rfl,(blk_cell BK259.out 1).trans rfl⟩ (fun hHeld => ?_)
      clear hK K
      refine norm_ (a':=?_) ?_ ?_
      rotate_left
      ·show Act.put _ (some 27) _ = _
       simp only [Act.put,List.setIfInBounds_toArray,List.set_cons_zero,List.set_cons_succ,i64_w,i32_w]
       rfl
      refine one_ (i:=4) (N:=some 28) #[true,true,true,true,true,false] rfl rfl (by kernel_rfl) (by decide) (fun K hK => ?_)
      refine goes_ Tryd.func24 (by kernel_rfl) rfl #[.slice Ao34 t262.length co34,.agg #[.int .i64 t265,.slice Ao35 t266.length co35]] (by rfl) rfl rfl (by (try simp only [List.map_toArray,List.map_cons,List.map_nil]);first|done|rfl|(simp only [List.length_drop,List.length_take];rfl)) ?_
      with_reducible refine (spec_Starts.calls k _ _ t262 t265 _ _ t266 t269 _ ?side1 ?side2 ?side3 ?side4 A13.out).mono ?_
      (case side1 => repeat (first|exact (Kd.R_reads' HO264.out).2.2|(with_reducible first|refine Kd.C_alloc ?_ _|refine Kd.C_drewN ?_ _|refine Kd.C_drew ?_)))
      (case side2 => exact (Kd.R_reads' HO264.out).2.1)
      (case side3 => repeat (first|exact (Kd.R_reads' HO268.out).2.2|(with_reducible first|refine Kd.C_alloc ?_ _|refine Kd.C_drewN ?_ _|refine Kd.C_drew ?_)))
      (case side4 => exact (Kd.R_reads' HO268.out).2.1)
      rintro e w36 ⟨v270,rfl,ho0,hb⟩
      refine ⟨_,rfl,?_⟩
      have n0_:=Aside0.mk (Kd.R_below (by (with_reducible repeat (first|apply Kd.R_alloc|apply Kd.R_drewN|apply Kd.R_drew));exact HO264.out) hb)
      have n1_:=Aside0.mk (Kd.R_elder' (by (with_reducible repeat (first|apply Kd.R_alloc|apply Kd.R_drewN|apply Kd.R_drew));exact HO268.out) (Kd.R_base ho0) hb)
      have n2_:=Aside0.mk (Kd.R_lower (Kd.R_new' ho0 (Kd.R_lt (by (with_reducible repeat (first|apply Kd.R_alloc|apply Kd.R_drewN|apply Kd.R_drew));exact HO268.out))) (below_size (by repeat (first|(with_reducible first|exact HB.out|apply below_alloc|apply pw_below_drewN|apply below_drew1|refine below_set ?_ GE259.out)|exact HB.out))))
      have n3_:=Aside0.mk (blk_below (g:=gb259) (o:=.cells #[.int .i64 a1_0,.slice A1_1 l1_1.length c1_1] 25 (0,0)) (by (with_reducible repeat (first|refine blk_drewN ?_ _|refine blk_drew ?_|refine blk_alloc ?_ _));exact BK259.out) hb)
      have n4_:=Aside0.mk (below_step (by repeat (first|(with_reducible first|exact HB.out|apply below_alloc|apply pw_below_drewN|apply below_drew1|refine below_set ?_ GE259.out)|exact HB.out)) hb)
      clear HO264
      clear HO268
      clear BK259
      clear HB
      have HO264:=n0_
      have HO268:=n1_
      have HO271:=n2_
      have BK259:=n3_
      have HB:=n4_
      clear n0_ n1_ n2_ n3_ n4_
      (try clear hb)
      (try clear hb2)
      (try clear hk)
      (try clear hi)
      (try clear ho0)
      refine hK.out _ _ ⟨(blk_cell BK259.out 0).trans rfl,(blk_cell BK259.out 1).trans rfl⟩ (fun hHeld => ?_)
      clear hK K
      refine norm_ (a':=?_) ?_ ?_
      rotate_left
      ·show Act.put _ (some 28) _ = _
       simp only [Act.put,List.setIfInBounds_toArray,List.set_cons_zero,List.set_cons_succ,i64_w,i32_w]
       rfl
      refine pure_ (i:=5) (N:=some 6) (v:=?_) (a':=?_) #[true,true,true,true,true,true] rfl rfl (by kernel_rfl) (fun _ _ _ h => h) (Or.inl ⟨by rfl,?_⟩) ?_ ?_
      rotate_left
      ·intro w'
       go_simp
       with_reducible rfl
      rotate_left
      ·simp only [Act.put,List.setIfInBounds_toArray,List.set_cons_zero,List.set_cons_succ,i64_w,i32_w]
       rfl
      refine done_ (by kernel_rfl) ?_
      try go_wp2_with (first|((with_reducible refine gate_callee (f:=19) rfl ?_);refine goesL_ (some 30) rfl rfl Tryd.func19 (by kernel_rfl) rfl #[.slice A0 l0.length c0] rfl (by (try simp only [List.map_toArray,List.map_cons,List.map_nil]);first|done|rfl|(simp only [List.length_drop,List.length_take];rfl)) ?_;(with_reducible refine (laws_toStringS.calls k _ _ l0 t272 _ ?side1 ?side2 A14.out).mono ?_);(case side1 => repeat (first|exact (Kd.C_below HR0.out HB.out)|(with_reducible first|refine Kd.C_alloc ?_ _|refine Kd.C_drewN ?_ _|refine Kd.C_drew ?_)));(case side2 => exact HC0.out);rintro e w37 ⟨v273,rfl,ho0,hb⟩;refine ⟨_,rfl,?_⟩;have n0_:=Aside0.mk (Kd.R_elder' (by (with_reducible repeat (first|apply Kd.R_alloc|apply Kd.R_drewN|apply Kd.R_drew));exact HO264.out) (Kd.R_base ho0) hb);have n1_:=Aside0.mk (Kd.R_below (by (with_reducible repeat (first|apply Kd.R_alloc|apply Kd.R_drewN|apply Kd.R_drew));exact HO268.out) hb);have n2_:=Aside0.mk (Kd.R_below (by (with_reducible repeat (first|apply Kd.R_alloc|apply Kd.R_drewN|apply Kd.R_drew));exact HO271.out) hb);have n3_:=Aside0.mk (Kd.R_lower (Kd.R_new' ho0 (Kd.R_lt (by (with_reducible repeat (first|apply Kd.R_alloc|apply Kd.R_drewN|apply Kd.R_drew));exact HO264.out))) (below_size (by repeat (first|(with_reducible first|exact HB.out|apply below_alloc|apply pw_below_drewN|apply below_drew1|refine below_set ?_ GE259.out)|exact HB.out))));have n4_:=Aside0.mk (blk_below (g:=gb259) (o:=.cells #[.int .i64 a1_0,.slice A1_1 l1_1.length c1_1] 25 (0,0)) (by (with_reducible repeat (first|refine blk_drewN ?_ _|refine blk_drew ?_|refine blk_alloc ?_ _));exact BK259.out) hb);have n5_:=Aside0.mk (below_step (by repeat (first|(with_reducible first|exact HB.out|apply below_alloc|apply pw_below_drewN|apply below_drew1|refine below_set ?_ GE259.out)|exact HB.out)) hb);clear HO264 HO268 HO271 BK259 HB;have HO264:=n0_;have HO268:=n1_;have HO271:=n2_;have HO274:=n3_;have BK259:=n4_;have HB:=n5_;clear n0_ n1_ n2_ n3_ n4_ n5_;(try clear hb);(try clear hb2);(try clear hk);(try clear hi);(try clear ho0);have hcz38_0 : w37.cell? ⟨gb259,0,none⟩ = some (.int .i64 a1_0):=(blk_cell BK259.out 0).trans rfl;have hcz38_1 : w37.cell? ⟨gb259,1,none⟩ = some (.slice A1_1 l1_1.length c1_1):=(blk_cell BK259.out 1).trans rfl;have hfz38_0:=blk_frozen BK259.out 0;have hfz38_1:=blk_frozen BK259.out 1)|((with_reducible refine gate_callee (f:=20) rfl ?_);refine goesL_ (some 32) rfl rfl Tryd.func20 (by kernel_rfl) rfl #[.agg #[.int .i64 a1_0,.slice A1_1 l1_1.length c1_1]] rfl (by (try simp only [List.map_toArray,List.map_cons,List.map_nil]);first|done|rfl|(simp only [List.length_drop,List.length_take];rfl)) ?_;(with_reducible refine (laws_toNursery.calls k a1_0 _ _ l1_1 t275 t276 _ ?side1 ?side2 A15.out).mono ?_);(case side1 => repeat (first|exact (Kd.C_below HR1_1.out HB.out)|(with_reducible first|refine Kd.C_alloc ?_ _|refine Kd.C_drewN ?_ _|refine Kd.C_drew ?_)));(case side2 => exact HC1_1.out);rintro e w39 ⟨v277,rfl,ho0,hb⟩;refine ⟨_,rfl,?_⟩;have n0_:=Aside0.mk (Kd.R_below (by (with_reducible repeat (first|apply Kd.R_alloc|apply Kd.R_drewN|apply Kd.R_drew));exact HO264.out) hb);have n1_:=Aside0.mk (Kd.R_elder' (by (with_reducible repeat (first|apply Kd.R_alloc|apply Kd.R_drewN|apply Kd.R_drew));exact HO268.out) (Kd.R_base ho0) hb);have n2_:=Aside0.mk (Kd.R_elder' (by (with_reducible repeat (first|apply Kd.R_alloc|apply Kd.R_drewN|apply Kd.R_drew));exact HO271.out) (Kd.R_base ho0) hb);have n3_:=Aside0.mk (Kd.R_below (by (with_reducible repeat (first|apply Kd.R_alloc|apply Kd.R_drewN|apply Kd.R_drew));exact HO274.out) hb);have n4_:=Aside0.mk (Kd.R_lower (Kd.R_new' (Kd.R_new' ho0 (Kd.R_lt (by (with_reducible repeat (first|apply Kd.R_alloc|apply Kd.R_drewN|apply Kd.R_drew));exact HO268.out))) (Kd.R_lt (by (with_reducible repeat (first|apply Kd.R_alloc|apply Kd.R_drewN|apply Kd.R_drew));exact HO271.out))) (below_size (by repeat (first|(with_reducible first|exact HB.out|apply below_alloc|apply pw_below_drewN|apply below_drew1|refine below_set ?_ GE259.out)|exact HB.out))));have n5_:=Aside0.mk (blk_below (g:=gb259) (o:=.cells #[.int .i64 a1_0,.slice A1_1 l1_1.length c1_1] 25 (0,0)) (by (with_reducible repeat (first|refine blk_drewN ?_ _|refine blk_drew ?_|refine blk_alloc ?_ _));exact BK259.out) hb);have n6_:=Aside0.mk (below_step (by repeat (first|(with_reducible first|exact HB.out|apply below_alloc|apply pw_below_drewN|apply below_drew1|refine below_set ?_ GE259.out)|exact HB.out)) hb);clear HO264 HO268 HO271 HO274 BK259 HB;have HO264:=n0_;have HO268:=n1_;have HO271:=n2_;have HO274:=n3_;have HO278:=n4_;have BK259:=n5_;have HB:=n6_;clear n0_ n1_ n2_ n3_ n4_ n5_ n6_;(try clear hb);(try clear hb2);(try clear hk);(try clear hi);(try clear ho0))|((with_reducible refine gate_dst (N:=8) rfl ?_);refine box_event ?hg (N:=8) ?hd (cs:=#[.int .i64 0,.slice none 0 0]) (t:=30) ?hr ?_;(case hd => rfl);(case hg => rfl);(case hr => first|(go_simp;done)|(go_simp;rfl));intro gb279 hg w40 hbox hb;have n0_:=Aside0.mk (Kd.R_below (by (with_reducible repeat (first|apply Kd.R_alloc|apply Kd.R_drewN|apply Kd.R_drew));exact HO264.out) hb);have n1_:=Aside0.mk (Kd.R_below (by (with_reducible repeat (first|apply Kd.R_alloc|apply Kd.R_drewN|apply Kd.R_drew));exact HO268.out) hb);have n2_:=Aside0.mk (Kd.R_below (by (with_reducible repeat (first|apply Kd.R_alloc|apply Kd.R_drewN|apply Kd.R_drew));exact HO271.out) hb);have n3_:=Aside0.mk (Kd.R_below (by (with_reducible repeat (first|apply Kd.R_alloc|apply Kd.R_drewN|apply Kd.R_drew));exact HO274.out) hb);have n4_:=Aside0.mk (Kd.R_below (by (with_reducible repeat (first|apply Kd.R_alloc|apply Kd.R_drewN|apply Kd.R_drew));exact HO278.out) hb);have n5_:=Aside0.mk (blk_below (g:=gb259) (o:=.cells #[.int .i64 a1_0,.slice A1_1 l1_1.length c1_1] 25 (0,0)) (by (with_reducible repeat (first|refine blk_drewN ?_ _|refine blk_drew ?_|refine blk_alloc ?_ _));exact BK259.out) hb);have n6_:=Aside0.mk (below_step (by repeat (first|(with_reducible first|exact HB.out|apply below_alloc|apply pw_below_drewN|apply below_drew1|refine below_set ?_ GE259.out)|exact HB.out)) hb);have n7_:=Aside0.mk (hbox);have n8_:=Aside0.mk ((by rw [hg];exact (below_size (by repeat (first|(with_reducible first|exact HB.out|apply below_alloc|apply pw_below_drewN|apply below_drew1|refine below_set ?_ GE259.out)|exact HB.out))) : w.heap.size ≤ gb279));have n9_:=Aside0.mk ((by rw [hg];exact (below_size (by repeat (first|(with_reducible first|exact HB.out|apply below_alloc|apply pw_below_drewN|apply below_drew1|refine below_set ?_ GE259.out)|exact HB.out))) : w.heap.size ≤ gb279));have n10_:=Aside0.mk ((by rw [hg];exact Nat.ne_of_lt (blk_lt (g:=gb259) (o:=.cells #[.int .i64 a1_0,.slice A1_1 l1_1.length c1_1] 25 (0,0)) (by (with_reducible repeat (first|refine blk_drewN ?_ _|refine blk_drew ?_|refine blk_alloc ?_ _));exact BK259.out)) : gb259≠gb279));have n11_:=Aside0.mk ((by rw [hg];exact Nat.ne_of_gt (blk_lt (g:=gb259) (o:=.cells #[.int .i64 a1_0,.slice A1_1 l1_1.length c1_1] 25 (0,0)) (by (with_reducible repeat (first|refine blk_drewN ?_ _|refine blk_drew ?_|refine blk_alloc ?_ _));exact BK259.out)) : gb279≠gb259));clear HO264 HO268 HO271 HO274 HO278 BK259 HB;have HO264:=n0_;have HO268:=n1_;have HO271:=n2_;have HO274:=n3_;have HO278:=n4_;have BK259:=n5_;have HB:=n6_;have BK279:=n7_;have GW279:=n8_;have GE279:=n9_;have NB259_279:=n10_;have NB279_259:=n11_;clear n0_ n1_ n2_ n3_ n4_ n5_ n6_ n7_ n8_ n9_ n10_ n11_;clear hb hbox hg;have hnb41:=NB279_259.out;have hnc41:=NB259_279.out;have hcz42_0 : w40.cell? ⟨gb279,0,none⟩ = some (.int .i64 0):=(blk_cell BK279.out 0).trans rfl;have hcz42_1 : w40.cell? ⟨gb279,1,none⟩ = some (.slice none 0 0):=(blk_cell BK279.out 1).trans rfl;have hfz42_0:=blk_frozen BK279.out 0;have hfz42_1:=blk_frozen BK279.out 1;obtain ⟨Ao43,co43,eo43⟩:=Kd.R_slice HO278.out;subst eo43;obtain ⟨Ao44,co44,eo44⟩:=Kd.R_slice HO274.out;subst eo44)|((with_reducible refine gate_callee (f:=25) rfl ?_);refine goesL_ (some 35) rfl rfl Tryd.func25 (by kernel_rfl) rfl #[.slice Ao44 t272.length co44,.agg #[.int .i64 t275,.slice Ao43 t276.length co43]] rfl (by (try simp only [List.map_toArray,List.map_cons,List.map_nil]);first|done|rfl|(simp only [List.length_drop,List.length_take];rfl)) ?_;(with_reducible refine (impl_Starts.calls k _ _ t272 t275 _ _ t276 t280 _ ?side1 ?side2 ?side3 ?side4 A16.out).mono ?_);(case side1 => refine (Kd.R_reads' (e:=9) (base:=w.heap.size) (ok:=fun k_ => (True∧some k_≠(.slice Ao34 t262.length co34 : Value).ownBlock)) (n:=t272.length) (c:=co44) ?_).2.2;exact (by (with_reducible repeat (first|apply Kd.R_alloc|apply Kd.R_drewN|apply Kd.R_drew));exact (Kd.R_mono (Kd.R_far (p:=⟨gb279,1,none⟩) (Kd.R_far (p:=⟨gb279,0,none⟩) (Kd.R_types HO274.out BK279.out (by decide)) (fun _ hk => hk.2) (.int .i64 t275)) (fun _ hk => hk.2) (.slice Ao43 t276.length co43)) (fun _ h_ => h_.1))));(case side2 => exact (Kd.R_reads' HO274.out).2.1);(case side3 => refine (Kd.R_reads' (e:=2) (base:=w.heap.size) (ok:=fun k_ => ((True∧some k_≠(.slice Ao35 t266.length co35 : Value).ownBlock)∧some k_≠(v270 : Value).ownBlock)) (n:=t276.length) (c:=co43) ?_).2.2;exact (by (with_reducible repeat (first|apply Kd.R_alloc|apply Kd.R_drewN|apply Kd.R_drew));exact (Kd.R_mono (Kd.R_far (p:=⟨gb279,1,none⟩) (Kd.R_far (p:=⟨gb279,0,none⟩) (Kd.R_types HO278.out BK279.out (by decide)) (fun _ hk => hk.2) (.int .i64 t275)) (fun _ hk => hk.2) (.slice Ao43 t276.length co43)) (fun _ h_ => h_.1))));(case side4 => exact (Kd.R_reads' HO278.out).2.1);rintro e w45 ⟨v281,rfl,ho0,hb⟩;refine ⟨_,rfl,?_⟩;have n0_:=Aside0.mk (Kd.R_below (by (with_reducible repeat (first|apply Kd.R_alloc|apply Kd.R_drewN|apply Kd.R_drew));exact (Kd.R_mono (Kd.R_far (p:=⟨gb279,1,none⟩) (Kd.R_far (p:=⟨gb279,0,none⟩) (Kd.R_types HO264.out BK279.out (by decide)) (fun _ hk => hk.2) (.int .i64 t275)) (fun _ hk => hk.2) (.slice Ao43 t276.length co43)) (fun _ h_ => h_.1))) hb);have n1_:=Aside0.mk (Kd.R_elder' (by (with_reducible repeat (first|apply Kd.R_alloc|apply Kd.R_drewN|apply Kd.R_drew));exact (Kd.R_mono (Kd.R_far (p:=⟨gb279,1,none⟩) (Kd.R_far (p:=⟨gb279,0,none⟩) (Kd.R_types HO268.out BK279.out (by decide)) (fun _ hk => hk.2) (.int .i64 t275)) (fun _ hk => hk.2) (.slice Ao43 t276.length co43)) (fun _ h_ => h_.1))) (Kd.R_base ho0) hb);have n2_:=Aside0.mk (Kd.R_elder' (by (with_reducible repeat (first|apply Kd.R_alloc|apply Kd.R_drewN|apply Kd.R_drew));exact (Kd.R_mono (Kd.R_far (p:=⟨gb279,1,none⟩) (Kd.R_far (p:=⟨gb279,0,none⟩) (Kd.R_types HO271.out BK279.out (by decide)) (fun _ hk => hk.2) (.int .i64 t275)) (fun _ hk => hk.2) (.slice Ao43 t276.length co43)) (fun _ h_ => h_.1))) (Kd.R_base ho0) hb);have n3_:=Aside0.mk (Kd.R_below (by (with_reducible repeat (first|apply Kd.R_alloc|apply Kd.R_drewN|apply Kd.R_drew));exact (Kd.R_mono (Kd.R_far (p:=⟨gb279,1,none⟩) (Kd.R_far (p:=⟨gb279,0,none⟩) (Kd.R_types HO274.out BK279.out (by decide)) (fun _ hk => hk.2) (.int .i64 t275)) (fun _ hk => hk.2) (.slice Ao43 t276.length co43)) (fun _ h_ => h_.1))) hb);have n4_:=Aside0.mk (Kd.R_elder' (by (with_reducible repeat (first|apply Kd.R_alloc|apply Kd.R_drewN|apply Kd.R_drew));exact (Kd.R_mono (Kd.R_far (p:=⟨gb279,1,none⟩) (Kd.R_far (p:=⟨gb279,0,none⟩) (Kd.R_types HO278.out BK279.out (by decide)) (fun _ hk => hk.2) (.int .i64 t275)) (fun _ hk => hk.2) (.slice Ao43 t276.length co43)) (fun _ h_ => h_.1))) (Kd.R_base ho0) hb);have n5_:=Aside0.mk (Kd.R_lower (Kd.R_new' (Kd.R_new' (Kd.R_new' ho0 (Kd.R_lt (by (with_reducible repeat (first|apply Kd.R_alloc|apply Kd.R_drewN|apply Kd.R_drew));exact (Kd.R_mono (Kd.R_far (p:=⟨gb279,1,none⟩) (Kd.R_far (p:=⟨gb279,0,none⟩) (Kd.R_types HO268.out BK279.out (by decide)) (fun _ hk => hk.2) (.int .i64 t275)) (fun _ hk => hk.2) (.slice Ao43 t276.length co43)) (fun _ h_ => h_.1))))) (Kd.R_lt (by (with_reducible repeat (first|apply Kd.R_alloc|apply Kd.R_drewN|apply Kd.R_drew));exact (Kd.R_mono (Kd.R_far (p:=⟨gb279,1,none⟩) (Kd.R_far (p:=⟨gb279,0,none⟩) (Kd.R_types HO271.out BK279.out (by decide)) (fun _ hk => hk.2) (.int .i64 t275)) (fun _ hk => hk.2) (.slice Ao43 t276.length co43)) (fun _ h_ => h_.1))))) (Kd.R_lt (by (with_reducible repeat (first|apply Kd.R_alloc|apply Kd.R_drewN|apply Kd.R_drew));exact (Kd.R_mono (Kd.R_far (p:=⟨gb279,1,none⟩) (Kd.R_far (p:=⟨gb279,0,none⟩) (Kd.R_types HO278.out BK279.out (by decide)) (fun _ hk => hk.2) (.int .i64 t275)) (fun _ hk => hk.2) (.slice Ao43 t276.length co43)) (fun _ h_ => h_.1))))) (below_size (by repeat (first|(with_reducible first|exact HB.out|apply below_alloc|apply pw_below_drewN|apply below_drew1|refine below_set ?_ GE259.out|refine below_set ?_ GE279.out)|exact HB.out))));have n6_:=Aside0.mk (blk_below (g:=gb259) (o:=.cells #[.int .i64 a1_0,.slice A1_1 l1_1.length c1_1] 25 (0,0)) (by (with_reducible repeat (first|refine blk_drewN ?_ _|refine blk_drew ?_|refine blk_alloc ?_ _));refine blk_far ?_ NB259_279.out _;(with_reducible repeat (first|refine blk_drewN ?_ _|refine blk_drew ?_|refine blk_alloc ?_ _));refine blk_far ?_ NB259_279.out _;(with_reducible repeat (first|refine blk_drewN ?_ _|refine blk_drew ?_|refine blk_alloc ?_ _));exact BK259.out) hb);have n7_:=Aside0.mk (blk_below (g:=gb279) (o:=.cells #[.int .i64 t275,.slice Ao43 t276.length co43] 30 (0,0)) (by (with_reducible repeat (first|refine blk_drewN ?_ _|refine blk_drew ?_|refine blk_alloc ?_ _));refine blk_put (cs:=#[.int .i64 t275,.slice none 0 0]) ?_ 1 _ rfl;(with_reducible repeat (first|refine blk_drewN ?_ _|refine blk_drew ?_|refine blk_alloc ?_ _));refine blk_put (cs:=#[.int .i64 0,.slice none 0 0]) ?_ 0 _ rfl;(with_reducible repeat (first|refine blk_drewN ?_ _|refine blk_drew ?_|refine blk_alloc ?_ _));exact BK279.out) hb);have n8_:=Aside0.mk (below_step (by repeat (first|(with_reducible first|exact HB.out|apply below_alloc|apply pw_below_drewN|apply below_drew1|refine below_set ?_ GE259.out|refine below_set ?_ GE279.out)|exact HB.out)) hb);clear HO264 HO268 HO271 HO274 HO278 BK259 BK279 HB;have HO264:=n0_;have HO268:=n1_;have HO271:=n2_;have HO274:=n3_;have HO278:=n4_;have HO282:=n5_;have BK259:=n6_;have BK279:=n7_;have HB:=n8_;clear n0_ n1_ n2_ n3_ n4_ n5_ n6_ n7_ n8_;(try clear hb);(try clear hb2);(try clear hk);(try clear hi);(try clear ho0);obtain ⟨Ao46,co46,eo46⟩:=Kd.R_slice HO282.out;subst eo46;obtain ⟨Ao47,co47,eo47⟩:=Kd.R_slice HO271.out;subst eo47)|((with_reducible refine gate_callee (f:=26) rfl ?_);refine goesL_ (some 38) rfl rfl Tryd.func26 (by kernel_rfl) rfl #[.slice Ao46 t280.length co46,.slice Ao47 t269.length co47] rfl (by (try simp only [List.map_toArray,List.map_cons,List.map_nil]);first|done|rfl|(simp only [List.length_drop,List.length_take];rfl)) ?_;(with_reducible refine (laws_eqInt64S.calls k _ _ t280 _ _ t269 true _ ?side1 ?side2 ?side3 ?side4 A17.out).mono ?_);(case side1 => repeat (first|exact (Kd.R_reads' HO282.out).2.2|(with_reducible first|refine Kd.C_alloc ?_ _|refine Kd.C_drewN ?_ _|refine Kd.C_drew ?_)));(case side2 => exact (Kd.R_reads' HO282.out).2.1);(case side3 => repeat (first|exact (Kd.R_reads' HO271.out).2.2|(with_reducible first|refine Kd.C_alloc ?_ _|refine Kd.C_drewN ?_ _|refine Kd.C_drew ?_)));(case side4 => exact (Kd.R_reads' HO271.out).2.1);rintro e w' ⟨rfl,⟨nd,rfl⟩⟩;refine ⟨_,rfl,?_⟩)|((with_reducible refine gate_callee (f:=19) rfl ?_);refine goesL_ (some 42) rfl rfl Tryd.func19 (by kernel_rfl) rfl #[.slice A0 l0.length c0] rfl (by (try simp only [List.map_toArray,List.map_cons,List.map_nil]);first|done|rfl|(simp only [List.length_drop,List.length_take];rfl)) ?_;(with_reducible refine (laws_toStringS.calls k _ _ l0 t284 _ ?side1 ?side2 A19.out).mono ?_);(case side1 => repeat (first|exact (Kd.C_below HR0.out (by repeat (first|(with_reducible first|exact HB.out|apply below_alloc|apply pw_below_drewN|apply below_drew1|refine below_set ?_ GE259.out|refine below_set ?_ GE279.out)|exact HB.out)))|(with_reducible first|refine Kd.C_alloc ?_ _|refine Kd.C_drewN ?_ _|refine Kd.C_drew ?_)));(case side2 => exact HC0.out);rintro e w48 ⟨v285,rfl,ho0,hb⟩;refine ⟨_,rfl,?_⟩;have n0_:=Aside0.mk (Kd.R_elder' (by (with_reducible repeat (first|apply Kd.R_alloc|apply Kd.R_drewN|apply Kd.R_drew));exact HO264.out) (Kd.R_base ho0) hb);have n1_:=Aside0.mk (Kd.R_below (by (with_reducible repeat (first|apply Kd.R_alloc|apply Kd.R_drewN|apply Kd.R_drew));exact HO268.out) hb);have n2_:=Aside0.mk (Kd.R_below (by (with_reducible repeat (first|apply Kd.R_alloc|apply Kd.R_drewN|apply Kd.R_drew));exact HO271.out) hb);have n3_:=Aside0.mk (Kd.R_elder' (by (with_reducible repeat (first|apply Kd.R_alloc|apply Kd.R_drewN|apply Kd.R_drew));exact HO274.out) (Kd.R_base ho0) hb);have n4_:=Aside0.mk (Kd.R_below (by (with_reducible repeat (first|apply Kd.R_alloc|apply Kd.R_drewN|apply Kd.R_drew));exact HO278.out) hb);have n5_:=Aside0.mk (Kd.R_below (by (with_reducible repeat (first|apply Kd.R_alloc|apply Kd.R_drewN|apply Kd.R_drew));exact HO282.out) hb);have n6_:=Aside0.mk (Kd.R_lower (Kd.R_new' (Kd.R_new' ho0 (Kd.R_lt (by (with_reducible repeat (first|apply Kd.R_alloc|apply Kd.R_drewN|apply Kd.R_drew));exact HO264.out))) (Kd.R_lt (by (with_reducible repeat (first|apply Kd.R_alloc|apply Kd.R_drewN|apply Kd.R_drew));exact HO274.out))) (below_size (by repeat (first|(with_reducible first|exact HB.out|apply below_alloc|apply pw_below_drewN|apply below_drew1|refine below_set ?_ GE259.out|refine below_set ?_ GE279.out)|exact HB.out))));have n7_:=Aside0.mk (blk_below (g:=gb259) (o:=.cells #[.int .i64 a1_0,.slice A1_1 l1_1.length c1_1] 25 (0,0)) (by (with_reducible repeat (first|refine blk_drewN ?_ _|refine blk_drew ?_|refine blk_alloc ?_ _));exact BK259.out) hb);have n8_:=Aside0.mk (blk_below (g:=gb279) (o:=.cells #[.int .i64 t275,.slice Ao43 t276.length co43] 30 (0,0)) (by (with_reducible repeat (first|refine blk_drewN ?_ _|refine blk_drew ?_|refine blk_alloc ?_ _));exact BK279.out) hb);have n9_:=Aside0.mk (below_step (by repeat (first|(with_reducible first|exact HB.out|apply below_alloc|apply pw_below_drewN|apply below_drew1|refine below_set ?_ GE259.out|refine below_set ?_ GE279.out)|exact HB.out)) hb);clear HO264 HO268 HO271 HO274 HO278 HO282 BK259 BK279 HB;have HO264:=n0_;have HO268:=n1_;have HO271:=n2_;have HO274:=n3_;have HO278:=n4_;have HO282:=n5_;have HO286:=n6_;have BK259:=n7_;have BK279:=n8_;have HB:=n9_;clear n0_ n1_ n2_ n3_ n4_ n5_ n6_ n7_ n8_ n9_;(try clear hb);(try clear hb2);(try clear hk);(try clear hi);(try clear ho0);obtain ⟨Ao49,co49,eo49⟩:=Kd.R_slice HO286.out;subst eo49)|((with_reducible refine gate_callee (f:=22) rfl ?_);refine goesL_ (some 43) rfl rfl Tryd.func22 (by kernel_rfl) rfl #[.slice Ao44 t272.length co44,.slice Ao49 t284.length co49] rfl (by (try simp only [List.map_toArray,List.map_cons,List.map_nil]);first|done|rfl|(simp only [List.length_drop,List.length_take];rfl)) ?_;(with_reducible refine (laws_eqStringS.calls k _ _ t272 _ _ t284 true _ ?side1 ?side2 ?side3 ?side4 A20.out).mono ?_);(case side1 => repeat (first|exact (Kd.R_reads' HO274.out).2.2|(with_reducible first|refine Kd.C_alloc ?_ _|refine Kd.C_drewN ?_ _|refine Kd.C_drew ?_)));(case side2 => exact (Kd.R_reads' HO274.out).2.1);(case side3 => repeat (first|exact (Kd.R_reads' HO286.out).2.2|(with_reducible first|refine Kd.C_alloc ?_ _|refine Kd.C_drewN ?_ _|refine Kd.C_drew ?_)));(case side4 => exact (Kd.R_reads' HO286.out).2.1);rintro e w' ⟨rfl,⟨nd,rfl⟩⟩;refine ⟨_,rfl,?_⟩))
      (try (rw [drewN_self w48];generalize hq_ : World.drewN w48 _ = w48;have n0_ : Aside0 (Kd.R Kd.string 9 w48 w.heap.size (fun k_ => some k_≠(.slice Ao44 t272.length co44 : Value).ownBlock∧some k_≠(.slice Ao49 t284.length co49 : Value).ownBlock) (.slice Ao34 t262.length co34) t262):=⟨by rw [← hq_];exact (by (with_reducible repeat (first|apply Kd.R_alloc|apply Kd.R_drewN|apply Kd.R_drew));exact Kd.R_mono HO264.out (fun _ hk => ⟨hk.1.2,hk.2⟩))⟩;have n1_ : Aside0 (Kd.R (Kd.int .i64) 2 w48 w.heap.size (fun k_ => some k_≠(.slice Ao47 t269.length co47 : Value).ownBlock∧some k_≠(.slice Ao43 t276.length co43 : Value).ownBlock∧some k_≠(.slice Ao46 t280.length co46 : Value).ownBlock) (.slice Ao35 t266.length co35) t266):=⟨by rw [← hq_];exact (by (with_reducible repeat (first|apply Kd.R_alloc|apply Kd.R_drewN|apply Kd.R_drew));exact Kd.R_mono HO268.out (fun _ hk => ⟨hk.1.1.2,⟨hk.1.2,hk.2⟩⟩))⟩;have n2_ : Aside0 (Kd.R (Kd.int .i64) 2 w48 w.heap.size (fun k_ => some k_≠(.slice Ao35 t266.length co35 : Value).ownBlock∧some k_≠(.slice Ao43 t276.length co43 : Value).ownBlock∧some k_≠(.slice Ao46 t280.length co46 : Value).ownBlock) (.slice Ao47 t269.length co47) t269):=⟨by rw [← hq_];exact (by (with_reducible repeat (first|apply Kd.R_alloc|apply Kd.R_drewN|apply Kd.R_drew));exact Kd.R_mono HO271.out (fun _ hk => ⟨hk.1.1.2,⟨hk.1.2,hk.2⟩⟩))⟩;have n3_ : Aside0 (Kd.R Kd.string 9 w48 w.heap.size (fun k_ => some k_≠(.slice Ao34 t262.length co34 : Value).ownBlock∧some k_≠(.slice Ao49 t284.length co49 : Value).ownBlock) (.slice Ao44 t272.length co44) t272):=⟨by rw [← hq_];exact (by (with_reducible repeat (first|apply Kd.R_alloc|apply Kd.R_drewN|apply Kd.R_drew));exact Kd.R_mono HO274.out (fun _ hk => ⟨hk.1.2,hk.2⟩))⟩;have n4_ : Aside0 (Kd.R (Kd.int .i64) 2 w48 w.heap.size (fun k_ => some k_≠(.slice Ao35 t266.length co35 : Value).ownBlock∧some k_≠(.slice Ao47 t269.length co47 : Value).ownBlock∧some k_≠(.slice Ao46 t280.length co46 : Value).ownBlock) (.slice Ao43 t276.length co43) t276):=⟨by rw [← hq_];exact (by (with_reducible repeat (first|apply Kd.R_alloc|apply Kd.R_drewN|apply Kd.R_drew));exact Kd.R_mono HO278.out (fun _ hk => ⟨hk.1.1.2,⟨hk.1.2,hk.2⟩⟩))⟩;have n5_ : Aside0 (Kd.R (Kd.int .i64) 2 w48 w.heap.size (fun k_ => some k_≠(.slice Ao35 t266.length co35 : Value).ownBlock∧some k_≠(.slice Ao47 t269.length co47 : Value).ownBlock∧some k_≠(.slice Ao43 t276.length co43 : Value).ownBlock) (.slice Ao46 t280.length co46) t280):=⟨by rw [← hq_];exact (by (with_reducible repeat (first|apply Kd.R_alloc|apply Kd.R_drewN|apply Kd.R_drew));exact Kd.R_mono HO282.out (fun _ hk => ⟨hk.1.1.2,⟨hk.1.2,hk.2⟩⟩))⟩;have n6_ : Aside0 (Kd.R Kd.string 9 w48 w.heap.size (fun k_ => some k_≠(.slice Ao34 t262.length co34 : Value).ownBlock∧some k_≠(.slice Ao44 t272.length co44 : Value).ownBlock) (.slice Ao49 t284.length co49) t284):=⟨by rw [← hq_];exact (by (with_reducible repeat (first|apply Kd.R_alloc|apply Kd.R_drewN|apply Kd.R_drew));exact Kd.R_mono HO286.out (fun _ hk => ⟨hk.1.2,hk.2⟩))⟩;have n7_ : Aside0 (w48.heap[gb259]? = some (.cells #[.int .i64 a1_0,.slice A1_1 l1_1.length c1_1] 25 (0,0))):=⟨by rw [← hq_];exact (by (with_reducible repeat (first|refine blk_drewN ?_ _|refine blk_drew ?_|refine blk_alloc ?_ _));exact BK259.out)⟩;have n8_ : Aside0 (w48.heap[gb279]? = some (.cells #[.int .i64 t275,.slice Ao43 t276.length co43] 30 (0,0))):=⟨by rw [← hq_];exact (by (with_reducible repeat (first|refine blk_drewN ?_ _|refine blk_drew ?_|refine blk_alloc ?_ _));exact BK279.out)⟩;have n9_ : Aside0 (Below w.heap.size w w48):=⟨by rw [← hq_];exact (by repeat (first|(with_reducible first|exact HB.out|apply below_alloc|apply pw_below_drewN|apply below_drew1|refine below_set ?_ GE259.out|refine below_set ?_ GE279.out)|exact HB.out))⟩;clear HO264 HO268 HO271 HO274 HO278 HO282 HO286 BK259 BK279 HB hq_;have HO264:=n0_;have HO268:=n1_;have HO271:=n2_;have HO274:=n3_;have HO278:=n4_;have HO282:=n5_;have HO286:=n6_;have BK259:=n7_;have BK279:=n8_;have HB:=n9_;clear n0_ n1_ n2_ n3_ n4_ n5_ n6_ n7_ n8_ n9_))
      have n0_:=Aside0.mk (Kd.R_drew HO264.out)
      have n1_:=Aside0.mk (Kd.R_drew HO268.out)
      have n2_:=Aside0.mk (Kd.R_drew HO271.out)
      have n3_:=Aside0.mk (Kd.R_drew HO274.out)
      have n4_:=Aside0.mk (Kd.R_drew HO278.out)
      have n5_:=Aside0.mk (Kd.R_drew HO282.out)
      have n6_:=Aside0.mk (Kd.R_drew HO286.out)
      have n7_:=Aside0.mk (blk_drew BK259.out)
      have n8_:=Aside0.mk (blk_drew BK279.out)
      have n9_:=Aside0.mk (below_drew1 HB.out)
      clear HO264
      clear HO268
      clear HO271
      clear HO274
      clear HO278
      clear HO282
      clear HO286
      clear BK259
      clear BK279
      clear HB
      have HO264:=n0_
      have HO268:=n1_
      have HO271:=n2_
      have HO274:=n3_
      have HO278:=n4_
      have HO282:=n5_
      have HO286:=n6_
      have BK259:=n7_
      have BK279:=n8_
      have HB:=n9_
      clear n0_ n1_ n2_ n3_ n4_ n5_ n6_ n7_ n8_ n9_
      refine start_ (n:=5) (S:=fun w' => w'.cell? ⟨gb279,0,none⟩ = some (.int .i64 t275)∧w'.cell? ⟨gb279,1,none⟩ = some (.slice Ao43 t276.length co43)∧w'.cell? ⟨gb259,0,none⟩ = some (.int .i64 a1_0)∧w'.cell? ⟨gb259,1,none⟩ = some (.slice A1_1 l1_1.length c1_1)) (ds:=[]) #[false,false,false,false,false] (by kernel_rfl) rfl rfl ⟨(blk_cell BK279.out 0).trans rfl,(blk_cell BK279.out 1).trans rfl,(blk_cell BK259.out 0).trans rfl,(blk_cell BK259.out 1).trans rfl⟩ (fun hHeld => ?_)
      generalize w48.drew = w50 at HO264 HO268 HO271 HO274 HO278 HO282 HO286 BK259 BK279 HB hHeld ⊢
      refine take_ (i:=0) (N:=some 45) (v:=?_) (a':=?_) #[true,false,false,false,false] rfl rfl (by kernel_rfl) (fun _ _ _ h => h) (Or.inl ⟨by rfl,?_⟩) hHeld ?_ ?_
      rotate_left
      ·rintro w' ⟨s0,s1,s2,s3⟩
       go_simp
       with_reducible rfl
      rotate_left
      ·simp only [Act.put,List.setIfInBounds_toArray,List.set_cons_zero,List.set_cons_succ,i64_w,i32_w]
       rfl
      refine take_ (i:=1) (N:=some 46) (v:=?_) (a':=?_) #[true,true,false,false,false] rfl rfl (by kernel_rfl) (fun _ _ _ h => h) (Or.inl ⟨by rfl,?_⟩) hHeld ?_ ?_
      rotate_left
      ·rintro w' ⟨s0,s1,s2,s3⟩
       go_simp
       with_reducible rfl
      rotate_left
      ·simp only [Act.put,List.setIfInBounds_toArray,List.set_cons_zero,List.set_cons_succ,i64_w,i32_w]
       rfl
      refine one_ (i:=2) (N:=some 47) #[true,true,true,false,false] rfl rfl (by kernel_rfl) (by decide) (fun K hK => ?_)
      refine goes_ Tryd.func20 (by kernel_rfl) rfl #[.agg #[.int .i64 a1_0,.slice A1_1 l1_1.length c1_1]] (by rfl) rfl rfl (by (try simp only [List.map_toArray,List.map_cons,List.map_nil]);first|done|rfl|(simp only [List.length_drop,List.length_take];rfl)) ?_
      with_reducible refine (laws_toNursery.calls k a1_0 _ _ l1_1 t288 t289 _ ?side1 ?side2 A22.out).mono ?_
      (case side1 => repeat (first|exact (Kd.C_below HR1_1.out HB.out)|(with_reducible first|refine Kd.C_alloc ?_ _|refine Kd.C_drewN ?_ _|refine Kd.C_drew ?_)))
      (case side2 => exact HC1_1.out)
      rintro e w51 ⟨v290,rfl,ho0,hb⟩
      refine ⟨_,rfl,?_⟩
      have n0_:=Aside0.mk (Kd.R_below (by (with_reducible repeat (first|apply Kd.R_alloc|apply Kd.R_drewN|apply Kd.R_drew));exact HO264.out) hb)
      have n1_:=Aside0.mk (Kd.R_elder' (by (with_reducible repeat (first|apply Kd.R_alloc|apply Kd.R_drewN|apply Kd.R_drew));exact HO268.out) (Kd.R_base ho0) hb)
      have n2_:=Aside0.mk (Kd.R_elder' (by (with_reducible repeat (first|apply Kd.R_alloc|apply Kd.R_drewN|apply Kd.R_drew));exact HO271.out) (Kd.R_base ho0) hb)
      have n3_:=Aside0.mk (Kd.R_below (by (with_reducible repeat (first|apply Kd.R_alloc|apply Kd.R_drewN|apply Kd.R_drew));exact HO274.out) hb)
      have n4_:=Aside0.mk (Kd.R_elder' (by (with_reducible repeat (first|apply Kd.R_alloc|apply Kd.R_drewN|apply Kd.R_drew));exact HO278.out) (Kd.R_base ho0) hb)
      have n5_:=Aside0.mk (Kd.R_elder' (by (with_reducible repeat (first|apply Kd.R_alloc|apply Kd.R_drewN|apply Kd.R_drew));exact HO282.out) (Kd.R_base ho0) hb)
      have n6_:=Aside0.mk (Kd.R_below (by (with_reducible repeat (first|apply Kd.R_alloc|apply Kd.R_drewN|apply Kd.R_drew));exact HO286.out) hb)
      have n7_:=Aside0.mk (Kd.R_lower (Kd.R_new' (Kd.R_new' (Kd.R_new' (Kd.R_new' ho0 (Kd.R_lt (by (with_reducible repeat (first|apply Kd.R_alloc|apply Kd.R_drewN|apply Kd.R_drew));exact HO268.out))) (Kd.R_lt (by (with_reducible repeat (first|apply Kd.R_alloc|apply Kd.R_drewN|apply Kd.R_drew));exact HO271.out))) (Kd.R_lt (by (with_reducible repeat (first|apply Kd.R_alloc|apply Kd.R_drewN|apply Kd.R_drew));exact HO278.out))) (Kd.R_lt (by (with_reducible repeat (first|apply Kd.R_alloc|apply Kd.R_drewN|apply Kd.R_drew));exact HO282.out))) (below_size (by repeat (first|(with_reducible first|exact HB.out|apply below_alloc|apply pw_below_drewN|apply below_drew1|refine below_set ?_ GE259.out|refine below_set ?_ GE279.out)|exact HB.out))))
      have n8_:=Aside0.mk (blk_below (g:=gb259) (o:=.cells #[.int .i64 a1_0,.slice A1_1 l1_1.length c1_1] 25 (0,0)) (by (with_reducible repeat (first|refine blk_drewN ?_ _|refine blk_drew ?_|refine blk_alloc ?_ _));exact BK259.out) hb)
      have n9_:=Aside0.mk (blk_below (g:=gb279) (o:=.cells #[.int .i64 t275,.slice Ao43 t276.length co43] 30 (0,0)) (by (with_reducible repeat (first|refine blk_drewN ?_ _|refine blk_drew ?_|refine blk_alloc ?_ _));exact BK279.out) hb)
      have n10_:=Aside0.mk (below_step (by repeat (first|(with_reducible first|exact HB.out|apply below_alloc|apply pw_below_drewN|apply below_drew1|refine below_set ?_ GE259.out|refine below_set ?_ GE279.out)|exact HB.out)) hb)
      clear HO264
      clear HO268
      clear HO271
      clear HO274
      clear HO278
      clear HO282
      clear HO286
      clear BK259
      clear BK279
      clear HB
      have HO264:=n0_
      have HO268:=n1_
      have HO271:=n2_
      have HO274:=n3_
      have HO278:=n4_
      have HO282:=n5_
      have HO286:=n6_
      have HO291:=n7_
      have BK259:=n8_
      have BK279:=n9_
      have HB:=n10_
      clear n0_ n1_ n2_ n3_ n4_ n5_ n6_ n7_ n8_ n9_ n10_
      (try clear hb)
      (try clear hb2)
      (try clear hk)
      (try clear hi)
      (try clear ho0)
      obtain ⟨Ao52,co52,eo52⟩:=Kd.R_slice HO291.out
      (first|subst eo52|(injection eo52 with f1_ f2_ f3_;have f4_:=f1_.symm;have f5_:=f3_.symm;clear f1_ f2_ f3_;subst f4_;subst f5_))
      refine hK.out _ _ ⟨(blk_cell BK279.out 0).trans rfl,(blk_cell BK279.out 1).trans rfl,(blk_cell BK259.out 0).trans rfl,(blk_cell BK259.out 1).trans rfl⟩ (fun hHeld => ?_)
      clear hK K
      refine norm_ (a':=?_) ?_ ?_
      rotate_left
      ·show Act.put _ (some 47) _ = _
       simp only [Act.put,List.setIfInBounds_toArray,List.set_cons_zero,List.set_cons_succ,i64_w,i32_w]
       rfl
      refine one_ (i:=3) (N:=some 48) #[true,true,true,true,false] rfl rfl (by kernel_rfl) (by decide) (fun K hK => ?_)
      refine goes_ Tryd.func23 (by kernel_rfl) rfl #[.agg #[.int .i64 t275,.slice Ao43 t276.length co43],.agg #[.int .i64 t288,.slice Ao52 t289.length co52]] (by rfl) rfl rfl (by (try simp only [List.map_toArray,List.map_cons,List.map_nil]);first|done|rfl|(simp only [List.length_drop,List.length_take];rfl)) ?_
      with_reducible refine (laws_eqNursery.calls k t275 _ _ t276 t288 _ _ t289 true _ ?side1 ?side2 ?side3 ?side4 A23.out).mono ?_
      (case side1 => repeat (first|exact (Kd.R_reads' HO278.out).2.2|(with_reducible first|refine Kd.C_alloc ?_ _|refine Kd.C_drewN ?_ _|refine Kd.C_drew ?_)))
      (case side2 => exact (Kd.R_reads' HO278.out).2.1)
      (case side3 => repeat (first|exact (Kd.R_reads' HO291.out).2.2|(with_reducible first|refine Kd.C_alloc ?_ _|refine Kd.C_drewN ?_ _|refine Kd.C_drew ?_)))
      (case side4 => exact (Kd.R_reads' HO291.out).2.1)
      rintro e w53 ⟨rfl,hb⟩
      refine ⟨_,rfl,?_⟩
      have n0_:=Aside0.mk (Kd.R_below (by (with_reducible repeat (first|apply Kd.R_alloc|apply Kd.R_drewN|apply Kd.R_drew));exact HO264.out) hb)
      have n1_:=Aside0.mk (Kd.R_below (by (with_reducible repeat (first|apply Kd.R_alloc|apply Kd.R_drewN|apply Kd.R_drew));exact HO268.out) hb)
      have n2_:=Aside0.mk (Kd.R_below (by (with_reducible repeat (first|apply Kd.R_alloc|apply Kd.R_drewN|apply Kd.R_drew));exact HO271.out) hb)
      have n3_:=Aside0.mk (Kd.R_below (by (with_reducible repeat (first|apply Kd.R_alloc|apply Kd.R_drewN|apply Kd.R_drew));exact HO274.out) hb)
      have n4_:=Aside0.mk (Kd.R_below (by (with_reducible repeat (first|apply Kd.R_alloc|apply Kd.R_drewN|apply Kd.R_drew));exact HO278.out) hb)
      have n5_:=Aside0.mk (Kd.R_below (by (with_reducible repeat (first|apply Kd.R_alloc|apply Kd.R_drewN|apply Kd.R_drew));exact HO282.out) hb)
      have n6_:=Aside0.mk (Kd.R_below (by (with_reducible repeat (first|apply Kd.R_alloc|apply Kd.R_drewN|apply Kd.R_drew));exact HO286.out) hb)
      have n7_:=Aside0.mk (Kd.R_below (by (with_reducible repeat (first|apply Kd.R_alloc|apply Kd.R_drewN|apply Kd.R_drew));exact HO291.out) hb)
      have n8_:=Aside0.mk (blk_below (g:=gb259) (o:=.cells #[.int .i64 a1_0,.slice A1_1 l1_1.length c1_1] 25 (0,0)) (by (with_reducible repeat (first|refine blk_drewN ?_ _|refine blk_drew ?_|refine blk_alloc ?_ _));exact BK259.out) hb)
      have n9_:=Aside0.mk (blk_below (g:=gb279) (o:=.cells #[.int .i64 t275,.slice Ao43 t276.length co43] 30 (0,0)) (by (with_reducible repeat (first|refine blk_drewN ?_ _|refine blk_drew ?_|refine blk_alloc ?_ _));exact BK279.out) hb)
      have n10_:=Aside0.mk (below_step (by repeat (first|(with_reducible first|exact HB.out|apply below_alloc|apply pw_below_drewN|apply below_drew1|refine below_set ?_ GE259.out|refine below_set ?_ GE279.out)|exact HB.out)) hb)
      clear HO264
      clear HO268
      clear HO271
      clear HO274
      clear HO278
      clear HO282
      clear HO286
      clear HO291
      clear BK259
      clear BK279
      clear HB
      have HO264:=n0_
      have HO268:=n1_
      have HO271:=n2_
      have HO274:=n3_
      have HO278:=n4_
      have HO282:=n5_
      have HO286:=n6_
      have HO291:=n7_
      have BK259:=n8_
      have BK279:=n9_
      have HB:=n10_
      clear n0_ n1_ n2_ n3_ n4_ n5_ n6_ n7_ n8_ n9_ n10_
      (try clear hb)
      (try clear hb2)
      (try clear hk)
      (try clear hi)
      refine hK.out _ _ ⟨(blk_cell BK279.out 0).trans rfl,(blk_cell BK279.out 1).trans rfl,(blk_cell BK259.out 0).trans rfl,(blk_cell BK259.out 1).trans rfl⟩ (fun hHeld => ?_)
      clear hK K
      refine norm_ (a':=?_) ?_ ?_
      rotate_left
      ·show Act.put _ (some 48) _ = _
       simp only [Act.put,List.setIfInBounds_toArray,List.set_cons_zero,List.set_cons_succ,i64_w,i32_w]
       rfl
      refine pure_ (i:=4) (N:=some 49) (v:=?_) (a':=?_) #[true,true,true,true,true] rfl rfl (by kernel_rfl) (fun _ _ _ h => h) (Or.inl ⟨by rfl,?_⟩) ?_ ?_
      rotate_left
      ·intro w'
       go_simp
       with_reducible rfl
      rotate_left
      ·simp only [Act.put,List.setIfInBounds_toArray,List.set_cons_zero,List.set_cons_succ,i64_w,i32_w]
       rfl
      refine done_ (by kernel_rfl) ?_
      go_upto_region 21 with (first|((with_reducible refine gate_callee (f:=27) rfl ?_);refine goesL_ (some 52) rfl rfl Tryd.func27 (by kernel_rfl) rfl #[.slice Ao44 t272.length co44,.int .i64 1] rfl (by (try simp only [List.map_toArray,List.map_cons,List.map_nil]);first|done|rfl|(simp only [List.length_drop,List.length_take];rfl)) ?_;(with_reducible refine (laws_markStringS.calls k (fun k_ => some k_ = (.slice Ao44 t272.length co44 : Value).ownBlock) (.slice Ao44 t272.length co44) t272 1 t293 t294 w _ ?side1 ?side2 A25.out).mono ?_);(case side1 => repeat (first|(with_reducible first|exact HB.out|apply below_alloc|apply pw_below_drewN|apply below_drew1|refine below_set ?_ GE259.out|refine below_set ?_ GE279.out)|exact HB.out));(case side2 => exact Kd.R_tight rfl HO274.out);rintro e w54 ⟨rfl,hy0,hb,hkp⟩;refine ⟨_,rfl,?_⟩;have n0_:=Aside0.mk (blk_kept (by (with_reducible repeat (first|refine blk_drewN ?_ _|refine blk_drew ?_|refine blk_alloc ?_ _));exact BK259.out) hkp (fun hs_ => (fun e_ => (Kd.R_ne HO274.out BK259.out (by decide)) e_) hs_));have n1_:=Aside0.mk (Kd.R_mono (ok':=fun k_ => some k_≠(.slice Ao44 t272.length co44 : Value).ownBlock∧some k_≠(.slice Ao49 t284.length co49 : Value).ownBlock) (Kd.R_keptB (HO264.out) hkp (fun k_ hk_ hs_ => by first|exact hk_.1.2 hs_|exact hk_.1 hs_|exact hk_.2.1 hs_|exact hk_.2 hs_|exact hk_.2.2.1 hs_|exact hk_.2.2 hs_|exact hk_.2.2.2 hs_)) (fun k_ hk_ => by first|exact ⟨hk_.1.1.2,hk_.1.2⟩|(simp only [and_assoc] at hk_;exact ⟨hk_.1,hk_.2.1⟩)));have n2_:=Aside0.mk (Kd.R_mono (ok':=fun k_ => some k_≠(.slice Ao47 t269.length co47 : Value).ownBlock∧some k_≠(.slice Ao43 t276.length co43 : Value).ownBlock∧some k_≠(.slice Ao46 t280.length co46 : Value).ownBlock∧some k_≠(.slice Ao52 t289.length co52 : Value).ownBlock) (Kd.R_keptB ((Kd.R_apart' HO268.out (Kd.R_typed HO274.out) (by decide))) hkp (fun k_ hk_ hs_ => (hk_.2) hs_)) (fun k_ hk_ => by first|exact ⟨hk_.1.1.1.1.1.2,hk_.1.1.1.1.2,hk_.1.1.1.2,hk_.1.1.2⟩|(simp only [and_assoc] at hk_;exact ⟨hk_.1,hk_.2.1,hk_.2.2.1,hk_.2.2.2.1⟩)));have n3_:=Aside0.mk (Kd.R_mono (ok':=fun k_ => some k_≠(.slice Ao35 t266.length co35 : Value).ownBlock∧some k_≠(.slice Ao43 t276.length co43 : Value).ownBlock∧some k_≠(.slice Ao46 t280.length co46 : Value).ownBlock∧some k_≠(.slice Ao52 t289.length co52 : Value).ownBlock) (Kd.R_keptB ((Kd.R_apart' HO271.out (Kd.R_typed HO274.out) (by decide))) hkp (fun k_ hk_ hs_ => (hk_.2) hs_)) (fun k_ hk_ => by first|exact ⟨hk_.1.1.1.1.1.2,hk_.1.1.1.1.2,hk_.1.1.1.2,hk_.1.1.2⟩|(simp only [and_assoc] at hk_;exact ⟨hk_.1,hk_.2.1,hk_.2.2.1,hk_.2.2.2.1⟩)));have n4_:=Aside0.mk (Kd.R_reok rfl hy0 (fun k_ e_ => HO274.out.1 k_ e_));have n5_:=Aside0.mk (Kd.R_mono (ok':=fun k_ => some k_≠(.slice Ao35 t266.length co35 : Value).ownBlock∧some k_≠(.slice Ao47 t269.length co47 : Value).ownBlock∧some k_≠(.slice Ao46 t280.length co46 : Value).ownBlock∧some k_≠(.slice Ao52 t289.length co52 : Value).ownBlock) (Kd.R_keptB ((Kd.R_apart' HO278.out (Kd.R_typed HO274.out) (by decide))) hkp (fun k_ hk_ hs_ => (hk_.2) hs_)) (fun k_ hk_ => by first|exact ⟨hk_.1.1.1.1.1.2,hk_.1.1.1.1.2,hk_.1.1.1.2,hk_.1.1.2⟩|(simp only [and_assoc] at hk_;exact ⟨hk_.1,hk_.2.1,hk_.2.2.1,hk_.2.2.2.1⟩)));have n6_:=Aside0.mk (blk_kept (by (with_reducible repeat (first|refine blk_drewN ?_ _|refine blk_drew ?_|refine blk_alloc ?_ _));exact BK279.out) hkp (fun hs_ => (fun e_ => (Kd.R_ne HO274.out BK279.out (by decide)) e_) hs_));have n7_:=Aside0.mk (Kd.R_mono (ok':=fun k_ => some k_≠(.slice Ao35 t266.length co35 : Value).ownBlock∧some k_≠(.slice Ao47 t269.length co47 : Value).ownBlock∧some k_≠(.slice Ao43 t276.length co43 : Value).ownBlock∧some k_≠(.slice Ao52 t289.length co52 : Value).ownBlock) (Kd.R_keptB ((Kd.R_apart' HO282.out (Kd.R_typed HO274.out) (by decide))) hkp (fun k_ hk_ hs_ => (hk_.2) hs_)) (fun k_ hk_ => by first|exact ⟨hk_.1.1.1.1.1.2,hk_.1.1.1.1.2,hk_.1.1.1.2,hk_.1.1.2⟩|(simp only [and_assoc] at hk_;exact ⟨hk_.1,hk_.2.1,hk_.2.2.1,hk_.2.2.2.1⟩)));have n8_:=Aside0.mk (Kd.R_mono (ok':=fun k_ => some k_≠(.slice Ao34 t262.length co34 : Value).ownBlock∧some k_≠(.slice Ao44 t272.length co44 : Value).ownBlock) (Kd.R_keptB (HO286.out) hkp (fun k_ hk_ hs_ => (hk_.2) hs_)) (fun k_ hk_ => by first|exact ⟨hk_.1.1.2,hk_.1.2⟩|(simp only [and_assoc] at hk_;exact ⟨hk_.1,hk_.2.1⟩)));have n9_:=Aside0.mk (Kd.R_mono (ok':=fun k_ => some k_≠(.slice Ao35 t266.length co35 : Value).ownBlock∧some k_≠(.slice Ao47 t269.length co47 : Value).ownBlock∧some k_≠(.slice Ao43 t276.length co43 : Value).ownBlock∧some k_≠(.slice Ao46 t280.length co46 : Value).ownBlock) (Kd.R_keptB ((Kd.R_apart' HO291.out (Kd.R_typed HO274.out) (by decide))) hkp (fun k_ hk_ hs_ => (hk_.2) hs_)) (fun k_ hk_ => by first|exact ⟨hk_.1.1.1.1.1.2,hk_.1.1.1.1.2,hk_.1.1.1.2,hk_.1.1.2⟩|(simp only [and_assoc] at hk_;exact ⟨hk_.1,hk_.2.1,hk_.2.2.1,hk_.2.2.2.1⟩)));have n10_:=Aside0.mk (hb);clear BK259 HO264 HO268 HO271 HO274 HO278 BK279 HO282 HO286 HO291 HB;have BK259:=n0_;have HO264:=n1_;have HO268:=n2_;have HO271:=n3_;have HO274:=n4_;have HO278:=n5_;have BK279:=n6_;have HO282:=n7_;have HO286:=n8_;have HO291:=n9_;have HB:=n10_;clear n0_ n1_ n2_ n3_ n4_ n5_ n6_ n7_ n8_ n9_ n10_;(try clear hb);(try clear hkp);(try clear hy0);have hcz55_0 : w54.cell? ⟨gb279,0,none⟩ = some (.int .i64 t275):=(blk_cell BK279.out 0).trans rfl;have hcz55_1 : w54.cell? ⟨gb279,1,none⟩ = some (.slice Ao43 t276.length co43):=(blk_cell BK279.out 1).trans rfl;have hfz55_0:=blk_frozen BK279.out 0;have hfz55_1:=blk_frozen BK279.out 1)|((with_reducible refine gate_callee (f:=28) rfl ?_);refine goesL_ (some 55) rfl rfl Tryd.func28 (by kernel_rfl) rfl #[.agg #[.int .i64 t275,.slice Ao43 t276.length co43],.int .i64 t293] rfl (by (try simp only [List.map_toArray,List.map_cons,List.map_nil]);first|done|rfl|(simp only [List.length_drop,List.length_take];rfl)) ?_;(with_reducible refine (laws_markNursery.calls k t275 (fun k_ => some k_ = (.slice Ao43 t276.length co43 : Value).ownBlock) (.slice Ao43 t276.length co43) t276 t293 t295 t296 w _ ?side1 ?side2 A26.out).mono ?_);(case side1 => repeat (first|(with_reducible first|exact HB.out|apply below_alloc|apply pw_below_drewN|apply below_drew1|refine below_set ?_ GE259.out|refine below_set ?_ GE279.out)|exact HB.out));(case side2 => exact Kd.R_tight rfl HO278.out);rintro e w56 ⟨rfl,hy0,hb,hkp⟩;refine ⟨_,rfl,?_⟩;have n0_:=Aside0.mk (blk_kept (by (with_reducible repeat (first|refine blk_drewN ?_ _|refine blk_drew ?_|refine blk_alloc ?_ _));exact BK259.out) hkp (fun hs_ => (fun e_ => (Kd.R_ne HO278.out BK259.out (by decide)) e_) hs_));have n1_:=Aside0.mk (Kd.R_mono (ok':=fun k_ => some k_≠(.slice Ao44 t272.length co44 : Value).ownBlock∧some k_≠(.slice Ao49 t284.length co49 : Value).ownBlock) (Kd.R_keptB ((Kd.R_apart' HO264.out (Kd.R_typed HO278.out) (by decide))) hkp (fun k_ hk_ hs_ => (hk_.2) hs_)) (fun k_ hk_ => by first|exact ⟨hk_.1.1.1,hk_.1.1.2⟩|(simp only [and_assoc] at hk_;exact ⟨hk_.1,hk_.2.1⟩)));have n2_:=Aside0.mk (Kd.R_mono (ok':=fun k_ => some k_≠(.slice Ao47 t269.length co47 : Value).ownBlock∧some k_≠(.slice Ao43 t276.length co43 : Value).ownBlock∧some k_≠(.slice Ao46 t280.length co46 : Value).ownBlock∧some k_≠(.slice Ao52 t289.length co52 : Value).ownBlock) (Kd.R_keptB (HO268.out) hkp (fun k_ hk_ hs_ => by first|exact hk_.2.1 hs_|exact hk_.1 hs_|exact hk_.2.1 hs_|exact hk_.2 hs_|exact hk_.2.2.1 hs_|exact hk_.2.2 hs_|exact hk_.2.2.2 hs_)) (fun k_ hk_ => by first|exact ⟨hk_.1.1,hk_.1.2.1,hk_.1.2.2.1,hk_.1.2.2.2⟩|(simp only [and_assoc] at hk_;exact ⟨hk_.1,hk_.2.1,hk_.2.2.1,hk_.2.2.2.1⟩)));have n3_:=Aside0.mk (Kd.R_mono (ok':=fun k_ => some k_≠(.slice Ao35 t266.length co35 : Value).ownBlock∧some k_≠(.slice Ao43 t276.length co43 : Value).ownBlock∧some k_≠(.slice Ao46 t280.length co46 : Value).ownBlock∧some k_≠(.slice Ao52 t289.length co52 : Value).ownBlock) (Kd.R_keptB (HO271.out) hkp (fun k_ hk_ hs_ => by first|exact hk_.2.1 hs_|exact hk_.1 hs_|exact hk_.2.1 hs_|exact hk_.2 hs_|exact hk_.2.2.1 hs_|exact hk_.2.2 hs_|exact hk_.2.2.2 hs_)) (fun k_ hk_ => by first|exact ⟨hk_.1.1,hk_.1.2.1,hk_.1.2.2.1,hk_.1.2.2.2⟩|(simp only [and_assoc] at hk_;exact ⟨hk_.1,hk_.2.1,hk_.2.2.1,hk_.2.2.2.1⟩)));have n4_:=Aside0.mk (Kd.R_mono (ok':=fun k_ => some k_≠(.slice Ao34 t262.length co34 : Value).ownBlock∧some k_≠(.slice Ao49 t284.length co49 : Value).ownBlock) (Kd.R_keptB ((Kd.R_apart' HO274.out (Kd.R_typed HO278.out) (by decide))) hkp (fun k_ hk_ hs_ => (hk_.2) hs_)) (fun k_ hk_ => by first|exact ⟨hk_.1.1.1.2,hk_.1.1.2⟩|(simp only [and_assoc] at hk_;exact ⟨hk_.1,hk_.2.1⟩)));have n5_:=Aside0.mk (Kd.R_reok rfl hy0 (fun k_ e_ => HO278.out.1 k_ e_));have n6_:=Aside0.mk (blk_kept (by (with_reducible repeat (first|refine blk_drewN ?_ _|refine blk_drew ?_|refine blk_alloc ?_ _));exact BK279.out) hkp (fun hs_ => (fun e_ => (Kd.R_ne HO278.out BK279.out (by decide)) e_) hs_));have n7_:=Aside0.mk (Kd.R_mono (ok':=fun k_ => some k_≠(.slice Ao35 t266.length co35 : Value).ownBlock∧some k_≠(.slice Ao47 t269.length co47 : Value).ownBlock∧some k_≠(.slice Ao43 t276.length co43 : Value).ownBlock∧some k_≠(.slice Ao52 t289.length co52 : Value).ownBlock) (Kd.R_keptB (HO282.out) hkp (fun k_ hk_ hs_ => by first|exact hk_.2.2.1 hs_|exact hk_.1 hs_|exact hk_.2.1 hs_|exact hk_.2 hs_|exact hk_.2.2.1 hs_|exact hk_.2.2 hs_|exact hk_.2.2.2 hs_)) (fun k_ hk_ => by first|exact ⟨hk_.1.1,hk_.1.2.1,hk_.1.2.2.1,hk_.1.2.2.2⟩|(simp only [and_assoc] at hk_;exact ⟨hk_.1,hk_.2.1,hk_.2.2.1,hk_.2.2.2.1⟩)));have n8_:=Aside0.mk (Kd.R_mono (ok':=fun k_ => some k_≠(.slice Ao34 t262.length co34 : Value).ownBlock∧some k_≠(.slice Ao44 t272.length co44 : Value).ownBlock) (Kd.R_keptB ((Kd.R_apart' HO286.out (Kd.R_typed HO278.out) (by decide))) hkp (fun k_ hk_ hs_ => (hk_.2) hs_)) (fun k_ hk_ => by first|exact ⟨hk_.1.1.1,hk_.1.1.2⟩|(simp only [and_assoc] at hk_;exact ⟨hk_.1,hk_.2.1⟩)));have n9_:=Aside0.mk (Kd.R_mono (ok':=fun k_ => some k_≠(.slice Ao35 t266.length co35 : Value).ownBlock∧some k_≠(.slice Ao47 t269.length co47 : Value).ownBlock∧some k_≠(.slice Ao43 t276.length co43 : Value).ownBlock∧some k_≠(.slice Ao46 t280.length co46 : Value).ownBlock) (Kd.R_keptB (HO291.out) hkp (fun k_ hk_ hs_ => by first|exact hk_.2.2.1 hs_|exact hk_.1 hs_|exact hk_.2.1 hs_|exact hk_.2 hs_|exact hk_.2.2.1 hs_|exact hk_.2.2 hs_|exact hk_.2.2.2 hs_)) (fun k_ hk_ => by first|exact ⟨hk_.1.1,hk_.1.2.1,hk_.1.2.2.1,hk_.1.2.2.2⟩|(simp only [and_assoc] at hk_;exact ⟨hk_.1,hk_.2.1,hk_.2.2.1,hk_.2.2.2.1⟩)));have n10_:=Aside0.mk (hb);clear BK259 HO264 HO268 HO271 HO274 HO278 BK279 HO282 HO286 HO291 HB;have BK259:=n0_;have HO264:=n1_;have HO268:=n2_;have HO271:=n3_;have HO274:=n4_;have HO278:=n5_;have BK279:=n6_;have HO282:=n7_;have HO286:=n8_;have HO291:=n9_;have HB:=n10_;clear n0_ n1_ n2_ n3_ n4_ n5_ n6_ n7_ n8_ n9_ n10_;(try clear hb);(try clear hkp);(try clear hy0)))
      (try simp only [Act.put,List.setIfInBounds_toArray,List.set_cons_zero,List.set_cons_succ])
      go_cut [63] (fun v63 wc => ∃ (kq : Nat) (x63_26 : Bool),v63 = .bool x63_26∧Aside0 (laws_FnExactStarts.j0 kq l0 t269 t280 x63_26 a1_0 l1_1 = some r)∧Aside0 (kq ≤ k)∧Aside0 (Kd.R (Kd.int .i64) 2 wc w.heap.size (fun k_ => some k_≠((.slice Ao46 t280.length co46) : Value).ownBlock∧some k_≠((.slice Ao43 t276.length co43) : Value).ownBlock) (.slice Ao47 t269.length co47) t269)∧Aside0 (Kd.R (Kd.int .i64) 2 wc w.heap.size (fun k_ => some k_≠((.slice Ao47 t269.length co47) : Value).ownBlock∧some k_≠((.slice Ao43 t276.length co43) : Value).ownBlock) (.slice Ao46 t280.length co46) t280)∧Aside0 (Kd.R (Kd.int .i64) 2 wc w.heap.size (fun k_ => some k_≠((.slice Ao47 t269.length co47) : Value).ownBlock∧some k_≠((.slice Ao46 t280.length co46) : Value).ownBlock) (.slice Ao43 t276.length co43) t296)∧Aside0 (wc.heap[gb259]? = some (.cells #[.int .i64 a1_0,(.slice A1_1 l1_1.length c1_1)] 25 (0,0)))∧Aside0 (wc.heap[gb279]? = some (.cells #[.int .i64 t275,(.slice Ao43 t276.length co43)] 30 (0,0)))∧Aside0 (Below w.heap.size w wc))
      case first =>
       have H:=HC27.out
       clear HC27
       by_cases c57 : t295 < 0
       ·rw [if_pos c57] at H
        have c57b0 : decide (t295 < 0) = true:=decide_eq_true c57
        clear c57
        (first|rw [c57b0]|(simp only [i64_w,i32_w];rw [c57b0])|skip)
        have H':=Aside0.mk H
        clear H
        go_wp2
        go_meet
        case rel => exact ⟨_,(true),(by first|rfl|(simp;done)|(simp [*];done)),H',⟨by first|omega|exact Nat.le_refl _⟩,⟨by (with_reducible repeat (first|apply Kd.R_alloc|apply Kd.R_drewN|apply Kd.R_drew));exact Kd.R_mono HO271.out (fun _ hk => ⟨hk.2.2.1,hk.2.1⟩)⟩,⟨by (with_reducible repeat (first|apply Kd.R_alloc|apply Kd.R_drewN|apply Kd.R_drew));exact Kd.R_mono HO282.out (fun _ hk => ⟨hk.2.1,hk.2.2.1⟩)⟩,⟨by (with_reducible repeat (first|apply Kd.R_alloc|apply Kd.R_drewN|apply Kd.R_drew));exact Kd.R_mono HO278.out (fun _ hk => ⟨hk.2.1,hk.2.2.1⟩)⟩,⟨by (with_reducible repeat (first|refine blk_drewN ?_ _|refine blk_drew ?_|refine blk_alloc ?_ _));exact BK259.out⟩,⟨by (with_reducible repeat (first|refine blk_drewN ?_ _|refine blk_drew ?_|refine blk_alloc ?_ _));exact BK279.out⟩,⟨by repeat (first|(with_reducible first|exact HB.out|apply below_alloc|apply pw_below_drewN|apply below_drew1|refine below_set ?_ GE259.out|refine below_set ?_ GE279.out)|exact HB.out)⟩⟩
       ·rw [if_neg c57] at H
        have c57b0 : decide (t295 < 0) = false:=decide_eq_false c57
        clear c57
        (first|rw [c57b0]|(simp only [i64_w,i32_w];rw [c57b0])|skip)
        replace H:=Option.bind_eq_some_iff.mp H
        obtain ⟨t297,A580,H⟩:=H
        replace H : (laws_FnExactStarts.j0 k l0 t269 t280 (!t297) a1_0 l1_1) = some r:=H
        have A58:=Aside0.mk A580
        clear A580
        have H':=Aside0.mk H
        clear H
        go_wp2_with (first|(go_at_call 26;(with_reducible refine (laws_eqInt64S.calls k _ _ t280 _ _ t269 t297 _ ?side1 ?side2 ?side3 ?side4 A58.out).mono ?_);(case side1 => repeat (first|exact (Kd.R_reads' HO282.out).2.2|(with_reducible first|refine Kd.C_alloc ?_ _|refine Kd.C_drewN ?_ _|refine Kd.C_drew ?_)));(case side2 => exact (Kd.R_reads' HO282.out).2.1);(case side3 => repeat (first|exact (Kd.R_reads' HO271.out).2.2|(with_reducible first|refine Kd.C_alloc ?_ _|refine Kd.C_drewN ?_ _|refine Kd.C_drew ?_)));(case side4 => exact (Kd.R_reads' HO271.out).2.1);rintro e w' ⟨rfl,⟨nd,rfl⟩⟩))
        go_meet
        case rel => exact ⟨_,(!t297),(by first|rfl|(simp;done)|(simp [*];done)),H',⟨by first|omega|exact Nat.le_refl _⟩,⟨by (with_reducible repeat (first|apply Kd.R_alloc|apply Kd.R_drewN|apply Kd.R_drew));exact Kd.R_mono HO271.out (fun _ hk => ⟨hk.2.2.1,hk.2.1⟩)⟩,⟨by (with_reducible repeat (first|apply Kd.R_alloc|apply Kd.R_drewN|apply Kd.R_drew));exact Kd.R_mono HO282.out (fun _ hk => ⟨hk.2.1,hk.2.2.1⟩)⟩,⟨by (with_reducible repeat (first|apply Kd.R_alloc|apply Kd.R_drewN|apply Kd.R_drew));exact Kd.R_mono HO278.out (fun _ hk => ⟨hk.2.1,hk.2.2.1⟩)⟩,⟨by (with_reducible repeat (first|refine blk_drewN ?_ _|refine blk_drew ?_|refine blk_alloc ?_ _));exact BK259.out⟩,⟨by (with_reducible repeat (first|refine blk_drewN ?_ _|refine blk_drew ?_|refine blk_alloc ?_ _));exact BK279.out⟩,⟨by repeat (first|(with_reducible first|exact HB.out|apply below_alloc|apply pw_below_drewN|apply below_drew1|refine below_set ?_ GE259.out|refine below_set ?_ GE279.out)|exact HB.out)⟩⟩
      case rest =>
       clear HC27
       try clear c1
       try clear c2
       try clear p2
       try clear c4
       try clear c4b0
       try clear c5
       try clear c7
       try clear c7b0
       try clear c16
       try clear c17
       try clear c18
       try clear c19
       try clear c20
       try clear c21
       try clear c22
       try clear c23
       try clear c24
       try clear c25
       try clear c26
       try clear c27
       try clear c28
       try clear c41
       try clear c57
       try clear c57b0
       try clear hcz29_0
       try clear hcz29_1
       try clear hcz38_0
       try clear hcz38_1
       try clear hcz42_0
       try clear hcz42_1
       try clear hcz55_0
       try clear hcz55_1
       try clear hcz9_0
       try clear hcz9_1
       try clear hfz29_0
       try clear hfz29_1
       try clear hfz38_0
       try clear hfz38_1
       try clear hfz42_0
       try clear hfz42_1
       try clear hfz55_0
       try clear hfz55_1
       try clear hfz9_0
       try clear hfz9_1
       obtain ⟨kq,x63_26,rfl,HA,HJ26,HO_6,HO_9,HO_280001,BK259,BK279,HB⟩:=hcut
       have hl280001_26:=(Kd.R_reads' HO_280001.out).1
       rw [hl280001_26] at HO_280001
       (try simp only [hl280001_26])
       (try simp only [hl280001_26] at BK259)
       (try simp only [hl280001_26] at BK279)
       (try simp only [hl280001_26] at HO_6)
       (try simp only [hl280001_26] at HO_9)
       cases kq with
       | zero => exact absurd HA.out (by simp [laws_FnExactStarts.j0])
       | succ kj26 =>
        have H:=HA.out
        clear HA
        simp only [laws_FnExactStarts.j0] at H
        by_cases c59 : x63_26 = true
        ·subst c59
         have H1 : (some false) = some r:=by rw [if_pos rfl] at H;exact H
         clear H
         have H:=H1
         clear H1
         obtain rfl:=Option.some.inj H
         go_wp2
         go_ret
         exact ⟨by first|rfl|(simp [errW_none,errW_some] <;> rfl)|(simp [*,errW_none,errW_some] <;> rfl),by repeat (first|(with_reducible first|exact HB.out|apply below_alloc|apply pw_below_drewN|apply below_drew1|refine below_set ?_ GE259.out|refine below_set ?_ GE279.out)|exact HB.out)⟩
        ·replace c59:=Bool.eq_false_iff.mpr c59
         subst c59
         have H1 : ((laws_markInt64S.f kj26 t280 1).bind fun bt298 => ((laws_heldInt64S.f kj26 bt298.2 1).bind fun t300 => (if t300 < 0 then (some false) else (if t300 = bt298.1 then ((laws_toStringS.f kj26 l0).bind fun t301 => ((laws_toNursery.f kj26 a1_0 l1_1).bind fun bt304 => ((impl_Starts.f kj26 t301 bt304.1 bt304.2).bind fun t308 => ((laws_eqInt64S.f kj26 t308 t269).bind fun t311 => (if t311 = true then ((laws_heldInt64S.f kj26 bt298.2 1).bind fun t312 => (if t312 < 0 then (some false) else (if t312 = bt298.1 then (some true) else (some false)))) else (some false)))))) else (some false))))) = some r:=by rw [if_neg (show ¬ (false = true) by decide)] at H;exact H
         clear H
         have H:=H1
         clear H1
         replace H:=Option.bind_eq_some_iff.mp H
         obtain ⟨⟨t298,t299⟩,A600,H⟩:=H
         replace H : ((laws_heldInt64S.f kj26 t299 1).bind fun t300 => (if t300 < 0 then (some false) else (if t300 = t298 then ((laws_toStringS.f kj26 l0).bind fun t301 => ((laws_toNursery.f kj26 a1_0 l1_1).bind fun bt304 => ((impl_Starts.f kj26 t301 bt304.1 bt304.2).bind fun t308 => ((laws_eqInt64S.f kj26 t308 t269).bind fun t311 => (if t311 = true then ((laws_heldInt64S.f kj26 t299 1).bind fun t312 => (if t312 < 0 then (some false) else (if t312 = t298 then (some true) else (some false)))) else (some false)))))) else (some false)))) = some r:=H
         have A60:=Aside0.mk A600
         clear A600
         replace H:=Option.bind_eq_some_iff.mp H
         obtain ⟨t300,A610,H⟩:=H
         replace H : (if t300 < 0 then (some false) else (if t300 = t298 then ((laws_toStringS.f kj26 l0).bind fun t301 => ((laws_toNursery.f kj26 a1_0 l1_1).bind fun bt304 => ((impl_Starts.f kj26 t301 bt304.1 bt304.2).bind fun t308 => ((laws_eqInt64S.f kj26 t308 t269).bind fun t311 => (if t311 = true then ((laws_heldInt64S.f kj26 t299 1).bind fun t312 => (if t312 < 0 then (some false) else (if t312 = t298 then (some true) else (some false)))) else (some false)))))) else (some false))) = some r:=H
         have A61:=Aside0.mk A610
         clear A610
         by_cases c62 : t300 < 0
         ·rw [if_pos c62] at H
          have c62b0 : decide (t300 < 0) = true:=decide_eq_true c62
          clear c62
          obtain rfl:=Option.some.inj H
          go_wp2_with (first|((with_reducible refine gate_callee (f:=29) rfl ?_);refine goesL_ (some 66) rfl rfl Tryd.func29 (by kernel_rfl) rfl #[.slice Ao46 t280.length co46,.int .i64 1] rfl (by (try simp only [List.map_toArray,List.map_cons,List.map_nil]);first|done|rfl|(simp only [List.length_drop,List.length_take];rfl)) ?_;(with_reducible refine (laws_markInt64S.calls kj26 (fun k_ => some k_ = (.slice Ao46 t280.length co46 : Value).ownBlock) (.slice Ao46 t280.length co46) t280 1 t298 t299 w _ ?side1 ?side2 A60.out).mono ?_);(case side1 => repeat (first|(with_reducible first|exact HB.out|apply below_alloc|apply pw_below_drewN|apply below_drew1|refine below_set ?_ GE259.out|refine below_set ?_ GE279.out)|exact HB.out));(case side2 => exact Kd.R_tight rfl HO_9.out);rintro e w63 ⟨rfl,hy0,hb,hkp⟩;refine ⟨_,rfl,?_⟩;have n0_:=Aside0.mk (Kd.R_mono (ok':=fun k_ => some k_≠(.slice Ao46 t280.length co46 : Value).ownBlock∧some k_≠(.slice Ao43 t296.length co43 : Value).ownBlock) (Kd.R_keptB (HO_6.out) hkp (fun k_ hk_ hs_ => by first|exact hk_.1 hs_|exact hk_.1 hs_|exact hk_.2.1 hs_|exact hk_.2 hs_|exact hk_.2.2.1 hs_|exact hk_.2.2 hs_|exact hk_.2.2.2 hs_)) (fun k_ hk_ => by first|exact ⟨hk_.1.1,hk_.1.2⟩|(simp only [and_assoc] at hk_;exact ⟨hk_.1,hk_.2.1⟩)));have n1_:=Aside0.mk (Kd.R_reok rfl hy0 (fun k_ e_ => HO_9.out.1 k_ e_));have n2_:=Aside0.mk (Kd.R_mono (ok':=fun k_ => some k_≠(.slice Ao47 t269.length co47 : Value).ownBlock∧some k_≠(.slice Ao46 t280.length co46 : Value).ownBlock) (Kd.R_keptB (HO_280001.out) hkp (fun k_ hk_ hs_ => (hk_.2) hs_)) (fun k_ hk_ => by first|exact ⟨hk_.1.1,hk_.1.2⟩|(simp only [and_assoc] at hk_;exact ⟨hk_.1,hk_.2.1⟩)));have n3_:=Aside0.mk (blk_kept (by (with_reducible repeat (first|refine blk_drewN ?_ _|refine blk_drew ?_|refine blk_alloc ?_ _));exact BK259.out) hkp (fun hs_ => (fun e_ => (Kd.R_ne HO_9.out BK259.out (by decide)) e_) hs_));have n4_:=Aside0.mk (blk_kept (by (with_reducible repeat (first|refine blk_drewN ?_ _|refine blk_drew ?_|refine blk_alloc ?_ _));exact BK279.out) hkp (fun hs_ => (fun e_ => (Kd.R_ne HO_9.out BK279.out (by decide)) e_) hs_));have n5_:=Aside0.mk (hb);clear HO_6 HO_9 HO_280001 BK259 BK279 HB;have HO_6:=n0_;have HO_9:=n1_;have HO_280001:=n2_;have BK259:=n3_;have BK279:=n4_;have HB:=n5_;clear n0_ n1_ n2_ n3_ n4_ n5_;(try clear hb);(try clear hkp);(try clear hy0))|((with_reducible refine gate_callee (f:=30) rfl ?_);refine goesL_ (some 69) rfl rfl Tryd.func30 (by kernel_rfl) rfl #[.slice Ao46 t299.length co46,.int .i64 1] rfl (by (try simp only [List.map_toArray,List.map_cons,List.map_nil]);first|done|(rw [show t299.length = t280.length from (Kd.R_reads' HO_9.out).1.symm] <;> rfl)|rfl|(simp only [List.length_drop,List.length_take];rfl)) ?_;(with_reducible refine (laws_heldInt64S.calls kj26 _ _ t299 1 t300 _ ?side1 ?side2 A61.out).mono ?_);(case side1 => repeat (first|exact (Kd.R_reads' HO_9.out).2.2|(with_reducible first|refine Kd.C_alloc ?_ _|refine Kd.C_drewN ?_ _|refine Kd.C_drew ?_)));(case side2 => rw [show t299.length = t280.length from (Kd.R_reads' HO_9.out).1.symm];exact (Kd.R_reads' HO_9.out).2.1);rintro e w' ⟨rfl,⟨nd,rfl⟩⟩;refine ⟨_,rfl,?_⟩))
          go_ret
          exact ⟨by first|rfl|(simp [errW_none,errW_some] <;> rfl)|(simp [*,errW_none,errW_some] <;> rfl),by repeat (first|(with_reducible first|exact HB.out|apply below_alloc|apply pw_below_drewN|apply below_drew1|refine below_set ?_ GE259.out|refine below_set ?_ GE279.out)|exact HB.out)⟩
         ·rw [if_neg c62] at H
          have c62b0 : decide (t300 < 0) = false:=decide_eq_false c62
          clear c62
          by_cases c64 : t300 = t298
          ·rw [if_pos c64] at H
           have c64b0 : (t300 == t298) = true:=beq_iff_eq.mpr c64
           have c64b1 : (t300 != t298) = false:=bne_eq_false_iff_eq.mpr c64
           clear c64
           replace H:=Option.bind_eq_some_iff.mp H
           obtain ⟨t301,A650,H⟩:=H
           replace H : ((laws_toNursery.f kj26 a1_0 l1_1).bind fun bt304 => ((impl_Starts.f kj26 t301 bt304.1 bt304.2).bind fun t308 => ((laws_eqInt64S.f kj26 t308 t269).bind fun t311 => (if t311 = true then ((laws_heldInt64S.f kj26 t299 1).bind fun t312 => (if t312 < 0 then (some false) else (if t312 = t298 then (some true) else (some false)))) else (some false))))) = some r:=H
           have A65:=Aside0.mk A650
           clear A650
           replace H:=Option.bind_eq_some_iff.mp H
           obtain ⟨⟨t304,t305⟩,A660,H⟩:=H
           replace H : ((impl_Starts.f kj26 t301 t304 t305).bind fun t308 => ((laws_eqInt64S.f kj26 t308 t269).bind fun t311 => (if t311 = true then ((laws_heldInt64S.f kj26 t299 1).bind fun t312 => (if t312 < 0 then (some false) else (if t312 = t298 then (some true) else (some false)))) else (some false)))) = some r:=H
           have A66:=Aside0.mk A660
           clear A660
           replace H:=Option.bind_eq_some_iff.mp H
           obtain ⟨t308,A670,H⟩:=H
           replace H : ((laws_eqInt64S.f kj26 t308 t269).bind fun t311 => (if t311 = true then ((laws_heldInt64S.f kj26 t299 1).bind fun t312 => (if t312 < 0 then (some false) else (if t312 = t298 then (some true) else (some false)))) else (some false))) = some r:=H
           have A67:=Aside0.mk A670
           clear A670
           replace H:=Option.bind_eq_some_iff.mp H
           obtain ⟨t311,A680,H⟩:=H
           replace H : (if t311 = true then ((laws_heldInt64S.f kj26 t299 1).bind fun t312 => (if t312 < 0 then (some false) else (if t312 = t298 then (some true) else (some false)))) else (some false)) = some r:=H
           have A68:=Aside0.mk A680
           clear A680
           by_cases c69 : t311 = true
           ·subst c69
            have H1 : ((laws_heldInt64S.f kj26 t299 1).bind fun t312 => (if t312 < 0 then (some false) else (if t312 = t298 then (some true) else (some false)))) = some r:=by rw [if_pos rfl] at H;exact H
            clear H
            have H:=H1
            clear H1
            replace H:=Option.bind_eq_some_iff.mp H
            obtain ⟨t312,A700,H⟩:=H
            replace H : (if t312 < 0 then (some false) else (if t312 = t298 then (some true) else (some false))) = some r:=H
            have A70:=Aside0.mk A700
            clear A700
            by_cases c71 : t312 < 0
            ·rw [if_pos c71] at H
             have c71b0 : decide (t312 < 0) = true:=decide_eq_true c71
             clear c71
             obtain rfl:=Option.some.inj H
             try go_wp2_with (first|((with_reducible refine gate_callee (f:=29) rfl ?_);refine goesL_ (some 66) rfl rfl Tryd.func29 (by kernel_rfl) rfl #[.slice Ao46 t280.length co46,.int .i64 1] rfl (by (try simp only [List.map_toArray,List.map_cons,List.map_nil]);first|done|rfl|(simp only [List.length_drop,List.length_take];rfl)) ?_;(with_reducible refine (laws_markInt64S.calls kj26 (fun k_ => some k_ = (.slice Ao46 t280.length co46 : Value).ownBlock) (.slice Ao46 t280.length co46) t280 1 t298 t299 w _ ?side1 ?side2 A60.out).mono ?_);(case side1 => repeat (first|(with_reducible first|exact HB.out|apply below_alloc|apply pw_below_drewN|apply below_drew1|refine below_set ?_ GE259.out|refine below_set ?_ GE279.out)|exact HB.out));(case side2 => exact Kd.R_tight rfl HO_9.out);rintro e w72 ⟨rfl,hy0,hb,hkp⟩;refine ⟨_,rfl,?_⟩;have n0_:=Aside0.mk (Kd.R_mono (ok':=fun k_ => some k_≠(.slice Ao46 t280.length co46 : Value).ownBlock∧some k_≠(.slice Ao43 t296.length co43 : Value).ownBlock) (Kd.R_keptB (HO_6.out) hkp (fun k_ hk_ hs_ => by first|exact hk_.1 hs_|exact hk_.1 hs_|exact hk_.2.1 hs_|exact hk_.2 hs_|exact hk_.2.2.1 hs_|exact hk_.2.2 hs_|exact hk_.2.2.2 hs_)) (fun k_ hk_ => by first|exact ⟨hk_.1.1,hk_.1.2⟩|(simp only [and_assoc] at hk_;exact ⟨hk_.1,hk_.2.1⟩)));have n1_:=Aside0.mk (Kd.R_reok rfl hy0 (fun k_ e_ => HO_9.out.1 k_ e_));have n2_:=Aside0.mk (Kd.R_mono (ok':=fun k_ => some k_≠(.slice Ao47 t269.length co47 : Value).ownBlock∧some k_≠(.slice Ao46 t280.length co46 : Value).ownBlock) (Kd.R_keptB (HO_280001.out) hkp (fun k_ hk_ hs_ => (hk_.2) hs_)) (fun k_ hk_ => by first|exact ⟨hk_.1.1,hk_.1.2⟩|(simp only [and_assoc] at hk_;exact ⟨hk_.1,hk_.2.1⟩)));have n3_:=Aside0.mk (blk_kept (by (with_reducible repeat (first|refine blk_drewN ?_ _|refine blk_drew ?_|refine blk_alloc ?_ _));exact BK259.out) hkp (fun hs_ => (fun e_ => (Kd.R_ne HO_9.out BK259.out (by decide)) e_) hs_));have n4_:=Aside0.mk (blk_kept (by (with_reducible repeat (first|refine blk_drewN ?_ _|refine blk_drew ?_|refine blk_alloc ?_ _));exact BK279.out) hkp (fun hs_ => (fun e_ => (Kd.R_ne HO_9.out BK279.out (by decide)) e_) hs_));have n5_:=Aside0.mk (hb);clear HO_6 HO_9 HO_280001 BK259 BK279 HB;have HO_6:=n0_;have HO_9:=n1_;have HO_280001:=n2_;have BK259:=n3_;have BK279:=n4_;have HB:=n5_;clear n0_ n1_ n2_ n3_ n4_ n5_;(try clear hb);(try clear hkp);(try clear hy0))|((with_reducible refine gate_callee (f:=30) rfl ?_);refine goesL_ (some 69) rfl rfl Tryd.func30 (by kernel_rfl) rfl #[.slice Ao46 t299.length co46,.int .i64 1] rfl (by (try simp only [List.map_toArray,List.map_cons,List.map_nil]);first|done|(rw [show t299.length = t280.length from (Kd.R_reads' HO_9.out).1.symm] <;> rfl)|rfl|(simp only [List.length_drop,List.length_take];rfl)) ?_;(with_reducible refine (laws_heldInt64S.calls kj26 _ _ t299 1 t300 _ ?side1 ?side2 A61.out).mono ?_);(case side1 => repeat (first|exact (Kd.R_reads' HO_9.out).2.2|(with_reducible first|refine Kd.C_alloc ?_ _|refine Kd.C_drewN ?_ _|refine Kd.C_drew ?_)));(case side2 => rw [show t299.length = t280.length from (Kd.R_reads' HO_9.out).1.symm];exact (Kd.R_reads' HO_9.out).2.1);rintro e w' ⟨rfl,⟨nd,rfl⟩⟩;refine ⟨_,rfl,?_⟩))
             (try (rw [drewN_self w72];generalize hq_ : World.drewN w72 _ = w72;have n0_ : Aside0 (Kd.R (Kd.int .i64) 2 w72 w.heap.size (fun k_ => some k_≠(.slice Ao47 t269.length co47 : Value).ownBlock∧some k_≠(.slice Ao46 t280.length co46 : Value).ownBlock) (.slice Ao43 t296.length co43) t296):=⟨by rw [← hq_];exact (by (with_reducible repeat (first|apply Kd.R_alloc|apply Kd.R_drewN|apply Kd.R_drew));exact HO_280001.out)⟩;have n1_ : Aside0 (Kd.R (Kd.int .i64) 2 w72 w.heap.size (fun k_ => some k_≠(.slice Ao43 t296.length co43 : Value).ownBlock∧some k_≠(.slice Ao46 t280.length co46 : Value).ownBlock) (.slice Ao47 t269.length co47) t269):=⟨by rw [← hq_];exact (by (with_reducible repeat (first|apply Kd.R_alloc|apply Kd.R_drewN|apply Kd.R_drew));exact Kd.R_mono HO_6.out (fun _ hk => ⟨hk.2,hk.1⟩))⟩;have n2_ : Aside0 (Kd.R (Kd.int .i64) 2 w72 w.heap.size (fun k_ => some k_≠(.slice Ao43 t296.length co43 : Value).ownBlock∧some k_≠(.slice Ao47 t269.length co47 : Value).ownBlock) (.slice Ao46 t280.length co46) t299):=⟨by rw [← hq_];exact (by (with_reducible repeat (first|apply Kd.R_alloc|apply Kd.R_drewN|apply Kd.R_drew));exact Kd.R_mono HO_9.out (fun _ hk => ⟨hk.2,hk.1⟩))⟩;have n3_ : Aside0 (w72.heap[gb259]? = some (.cells #[.int .i64 a1_0,.slice A1_1 l1_1.length c1_1] 25 (0,0))):=⟨by rw [← hq_];exact (by (with_reducible repeat (first|refine blk_drewN ?_ _|refine blk_drew ?_|refine blk_alloc ?_ _));exact BK259.out)⟩;have n4_ : Aside0 (w72.heap[gb279]? = some (.cells #[.int .i64 t275,.slice Ao43 t296.length co43] 30 (0,0))):=⟨by rw [← hq_];exact (by (with_reducible repeat (first|refine blk_drewN ?_ _|refine blk_drew ?_|refine blk_alloc ?_ _));exact BK279.out)⟩;have n5_ : Aside0 (Below w.heap.size w w72):=⟨by rw [← hq_];exact (by repeat (first|(with_reducible first|exact HB.out|apply below_alloc|apply pw_below_drewN|apply below_drew1|refine below_set ?_ GE259.out|refine below_set ?_ GE279.out)|exact HB.out))⟩;clear HO_280001 HO_6 HO_9 BK259 BK279 HB hq_;have HO_280001:=n0_;have HO_6:=n1_;have HO_9:=n2_;have BK259:=n3_;have BK279:=n4_;have HB:=n5_;clear n0_ n1_ n2_ n3_ n4_ n5_))
             have n0_:=Aside0.mk (Kd.R_drew HO_6.out)
             have n1_:=Aside0.mk (Kd.R_drew HO_9.out)
             have n2_:=Aside0.mk (Kd.R_drew HO_280001.out)
             have n3_:=Aside0.mk (blk_drew BK259.out)
             have n4_:=Aside0.mk (blk_drew BK279.out)
             have n5_:=Aside0.mk (below_drew1 HB.out)
             clear HO_6
             clear HO_9
             clear HO_280001
             clear BK259
             clear BK279
             clear HB
             have HO_6:=n0_
             have HO_9:=n1_
             have HO_280001:=n2_
             have BK259:=n3_
             have BK279:=n4_
             have HB:=n5_
             clear n0_ n1_ n2_ n3_ n4_ n5_
             refine start_ (n:=6) (S:=fun w' => w'.cell? ⟨gb259,0,none⟩ = some (.int .i64 a1_0)∧w'.cell? ⟨gb259,1,none⟩ = some (.slice A1_1 l1_1.length c1_1)) (ds:=[]) #[false,false,false,false,false,false] (by kernel_rfl) rfl rfl ⟨(blk_cell BK259.out 0).trans rfl,(blk_cell BK259.out 1).trans rfl⟩ (fun hHeld => ?_)
             generalize w72.drew = w73 at HO_6 HO_9 HO_280001 BK259 BK279 HB hHeld ⊢
             refine pure_ (i:=0) (N:=some 75) (v:=?_) (a':=?_) #[true,false,false,false,false,false] rfl rfl (by kernel_rfl) (fun _ _ _ h => h) (Or.inl ⟨by rfl,?_⟩) ?_ ?_
             rotate_left
             ·intro w'
              go_simp
              with_reducible rfl
             rotate_left
             ·simp only [Act.put,List.setIfInBounds_toArray,List.set_cons_zero,List.set_cons_succ,i64_w,i32_w]
              rfl
             refine take_ (i:=2) (N:=some 77) (v:=?_) (a':=?_) #[true,false,true,false,false,false] rfl rfl (by kernel_rfl) (fun _ _ _ h => h) (Or.inl ⟨by rfl,?_⟩) hHeld ?_ ?_
             rotate_left
             ·rintro w' ⟨s0,s1⟩
              go_simp
              with_reducible rfl
             rotate_left
             ·simp only [Act.put,List.setIfInBounds_toArray,List.set_cons_zero,List.set_cons_succ,i64_w,i32_w]
              rfl
             refine one_ (i:=1) (N:=some 76) #[true,true,true,false,false,false] rfl rfl (by kernel_rfl) (by decide) (fun K hK => ?_)
             refine goes_ Tryd.func19 (by kernel_rfl) rfl #[.slice A0 l0.length c0] (by rfl) rfl rfl (by (try simp only [List.map_toArray,List.map_cons,List.map_nil]);first|done|rfl|(simp only [List.length_drop,List.length_take];rfl)) ?_
             with_reducible refine (laws_toStringS.calls kj26 _ _ l0 t301 _ ?side1 ?side2 A65.out).mono ?_
             (case side1 => repeat (first|exact (Kd.C_below HR0.out HB.out)|(with_reducible first|refine Kd.C_alloc ?_ _|refine Kd.C_drewN ?_ _|refine Kd.C_drew ?_)))
             (case side2 => exact HC0.out)
             rintro e w74 ⟨v302,rfl,ho0,hb⟩
             refine ⟨_,rfl,?_⟩
             have n0_:=Aside0.mk (Kd.R_below (by (with_reducible repeat (first|apply Kd.R_alloc|apply Kd.R_drewN|apply Kd.R_drew));exact HO_6.out) hb)
             have n1_:=Aside0.mk (Kd.R_below (by (with_reducible repeat (first|apply Kd.R_alloc|apply Kd.R_drewN|apply Kd.R_drew));exact HO_9.out) hb)
             have n2_:=Aside0.mk (Kd.R_below (by (with_reducible repeat (first|apply Kd.R_alloc|apply Kd.R_drewN|apply Kd.R_drew));exact HO_280001.out) hb)
             have n3_:=Aside0.mk (Kd.R_lower ho0 (below_size (by repeat (first|(with_reducible first|exact HB.out|apply below_alloc|apply pw_below_drewN|apply below_drew1|refine below_set ?_ GE259.out|refine below_set ?_ GE279.out)|exact HB.out))))
             have n4_:=Aside0.mk (blk_below (g:=gb259) (o:=.cells #[.int .i64 a1_0,.slice A1_1 l1_1.length c1_1] 25 (0,0)) (by (with_reducible repeat (first|refine blk_drewN ?_ _|refine blk_drew ?_|refine blk_alloc ?_ _));exact BK259.out) hb)
             have n5_:=Aside0.mk (blk_below (g:=gb279) (o:=.cells #[.int .i64 t275,.slice Ao43 t296.length co43] 30 (0,0)) (by (with_reducible repeat (first|refine blk_drewN ?_ _|refine blk_drew ?_|refine blk_alloc ?_ _));exact BK279.out) hb)
             have n6_:=Aside0.mk (below_step (by repeat (first|(with_reducible first|exact HB.out|apply below_alloc|apply pw_below_drewN|apply below_drew1|refine below_set ?_ GE259.out|refine below_set ?_ GE279.out)|exact HB.out)) hb)
             clear HO_6
             clear HO_9
             clear HO_280001
             clear BK259
             clear BK279
             clear HB
             have HO_6:=n0_
             have HO_9:=n1_
             have HO_280001:=n2_
             have HO303:=n3_
             have BK259:=n4_
             have BK279:=n5_
             have HB:=n6_
             clear n0_ n1_ n2_ n3_ n4_ n5_ n6_
             (try clear hb)
             (try clear hb2)
             (try clear hk)
             (try clear hi)
             (try clear ho0)
             refine hK.out _ _ ⟨(blk_cell BK259.out 0).trans rfl,(blk_cell BK259.out 1).trans rfl⟩ (fun hHeld => ?_)
             clear hK K
             refine norm_ (a':=?_) ?_ ?_
             rotate_left
             ·show Act.put _ (some 76) _ = _
              simp only [Act.put,List.setIfInBounds_toArray,List.set_cons_zero,List.set_cons_succ,i64_w,i32_w]
              rfl
             refine one_ (i:=3) (N:=some 78) #[true,true,true,true,false,false] rfl rfl (by kernel_rfl) (by decide) (fun K hK => ?_)
             refine goes_ Tryd.func20 (by kernel_rfl) rfl #[.agg #[.int .i64 a1_0,.slice A1_1 l1_1.length c1_1]] (by rfl) rfl rfl (by (try simp only [List.map_toArray,List.map_cons,List.map_nil]);first|done|rfl|(simp only [List.length_drop,List.length_take];rfl)) ?_
             with_reducible refine (laws_toNursery.calls kj26 a1_0 _ _ l1_1 t304 t305 _ ?side1 ?side2 A66.out).mono ?_
             (case side1 => repeat (first|exact (Kd.C_below HR1_1.out HB.out)|(with_reducible first|refine Kd.C_alloc ?_ _|refine Kd.C_drewN ?_ _|refine Kd.C_drew ?_)))
             (case side2 => exact HC1_1.out)
             rintro e w75 ⟨v306,rfl,ho0,hb⟩
             refine ⟨_,rfl,?_⟩
             have n0_:=Aside0.mk (Kd.R_elder' (by (with_reducible repeat (first|apply Kd.R_alloc|apply Kd.R_drewN|apply Kd.R_drew));exact HO_6.out) (Kd.R_base ho0) hb)
             have n1_:=Aside0.mk (Kd.R_elder' (by (with_reducible repeat (first|apply Kd.R_alloc|apply Kd.R_drewN|apply Kd.R_drew));exact HO_9.out) (Kd.R_base ho0) hb)
             have n2_:=Aside0.mk (Kd.R_elder' (by (with_reducible repeat (first|apply Kd.R_alloc|apply Kd.R_drewN|apply Kd.R_drew));exact HO_280001.out) (Kd.R_base ho0) hb)
             have n3_:=Aside0.mk (Kd.R_below (by (with_reducible repeat (first|apply Kd.R_alloc|apply Kd.R_drewN|apply Kd.R_drew));exact HO303.out) hb)
             have n4_:=Aside0.mk (Kd.R_lower (Kd.R_new' (Kd.R_new' (Kd.R_new' ho0 (Kd.R_lt (by (with_reducible repeat (first|apply Kd.R_alloc|apply Kd.R_drewN|apply Kd.R_drew));exact HO_6.out))) (Kd.R_lt (by (with_reducible repeat (first|apply Kd.R_alloc|apply Kd.R_drewN|apply Kd.R_drew));exact HO_9.out))) (Kd.R_lt (by (with_reducible repeat (first|apply Kd.R_alloc|apply Kd.R_drewN|apply Kd.R_drew));exact HO_280001.out))) (below_size (by repeat (first|(with_reducible first|exact HB.out|apply below_alloc|apply pw_below_drewN|apply below_drew1|refine below_set ?_ GE259.out|refine below_set ?_ GE279.out)|exact HB.out))))
             have n5_:=Aside0.mk (blk_below (g:=gb259) (o:=.cells #[.int .i64 a1_0,.slice A1_1 l1_1.length c1_1] 25 (0,0)) (by (with_reducible repeat (first|refine blk_drewN ?_ _|refine blk_drew ?_|refine blk_alloc ?_ _));exact BK259.out) hb)
             have n6_:=Aside0.mk (blk_below (g:=gb279) (o:=.cells #[.int .i64 t275,.slice Ao43 t296.length co43] 30 (0,0)) (by (with_reducible repeat (first|refine blk_drewN ?_ _|refine blk_drew ?_|refine blk_alloc ?_ _));exact BK279.out) hb)
             have n7_:=Aside0.mk (below_step (by repeat (first|(with_reducible first|exact HB.out|apply below_alloc|apply pw_below_drewN|apply below_drew1|refine below_set ?_ GE259.out|refine below_set ?_ GE279.out)|exact HB.out)) hb)
             clear HO_6
             clear HO_9
             clear HO_280001
             clear HO303
             clear BK259
             clear BK279
             clear HB
             have HO_6:=n0_
             have HO_9:=n1_
             have HO_280001:=n2_
             have HO303:=n3_
             have HO307:=n4_
             have BK259:=n5_
             have BK279:=n6_
             have HB:=n7_
             clear n0_ n1_ n2_ n3_ n4_ n5_ n6_ n7_
             (try clear hb)
             (try clear hb2)
             (try clear hk)
             (try clear hi)
             (try clear ho0)
             obtain ⟨Ao76,co76,eo76⟩:=Kd.R_slice HO303.out
             (first|subst eo76|(injection eo76 with f1_ f2_ f3_;have f4_:=f1_.symm;have f5_:=f3_.symm;clear f1_ f2_ f3_;subst f4_;subst f5_))
             obtain ⟨Ao77,co77,eo77⟩:=Kd.R_slice HO307.out
             (first|subst eo77|(injection eo77 with f1_ f2_ f3_;have f4_:=f1_.symm;have f5_:=f3_.symm;clear f1_ f2_ f3_;subst f4_;subst f5_))
             refine hK.out _ _ ⟨(blk_cell BK259.out 0).trans rfl,(blk_cell BK259.out 1).trans rfl⟩ (fun hHeld => ?_)
             clear hK K
             refine norm_ (a':=?_) ?_ ?_
             rotate_left
             ·show Act.put _ (some 78) _ = _
              simp only [Act.put,List.setIfInBounds_toArray,List.set_cons_zero,List.set_cons_succ,i64_w,i32_w]
              rfl
             refine one_ (i:=4) (N:=some 79) #[true,true,true,true,true,false] rfl rfl (by kernel_rfl) (by decide) (fun K hK => ?_)
             refine goes_ Tryd.func25 (by kernel_rfl) rfl #[.slice Ao76 t301.length co76,.agg #[.int .i64 t304,.slice Ao77 t305.length co77]] (by rfl) rfl rfl (by (try simp only [List.map_toArray,List.map_cons,List.map_nil]);first|done|rfl|(simp only [List.length_drop,List.length_take];rfl)) ?_
             with_reducible refine (impl_Starts.calls kj26 _ _ t301 t304 _ _ t305 t308 _ ?side1 ?side2 ?side3 ?side4 A67.out).mono ?_
             (case side1 => repeat (first|exact (Kd.R_reads' HO303.out).2.2|(with_reducible first|refine Kd.C_alloc ?_ _|refine Kd.C_drewN ?_ _|refine Kd.C_drew ?_)))
             (case side2 => exact (Kd.R_reads' HO303.out).2.1)
             (case side3 => repeat (first|exact (Kd.R_reads' HO307.out).2.2|(with_reducible first|refine Kd.C_alloc ?_ _|refine Kd.C_drewN ?_ _|refine Kd.C_drew ?_)))
             (case side4 => exact (Kd.R_reads' HO307.out).2.1)
             rintro e w78 ⟨v309,rfl,ho0,hb⟩
             refine ⟨_,rfl,?_⟩
             have n0_:=Aside0.mk (Kd.R_elder' (by (with_reducible repeat (first|apply Kd.R_alloc|apply Kd.R_drewN|apply Kd.R_drew));exact HO_6.out) (Kd.R_base ho0) hb)
             have n1_:=Aside0.mk (Kd.R_elder' (by (with_reducible repeat (first|apply Kd.R_alloc|apply Kd.R_drewN|apply Kd.R_drew));exact HO_9.out) (Kd.R_base ho0) hb)
             have n2_:=Aside0.mk (Kd.R_elder' (by (with_reducible repeat (first|apply Kd.R_alloc|apply Kd.R_drewN|apply Kd.R_drew));exact HO_280001.out) (Kd.R_base ho0) hb)
             have n3_:=Aside0.mk (Kd.R_below (by (with_reducible repeat (first|apply Kd.R_alloc|apply Kd.R_drewN|apply Kd.R_drew));exact HO303.out) hb)
             have n4_:=Aside0.mk (Kd.R_elder' (by (with_reducible repeat (first|apply Kd.R_alloc|apply Kd.R_drewN|apply Kd.R_drew));exact HO307.out) (Kd.R_base ho0) hb)
             have n5_:=Aside0.mk (Kd.R_lower (Kd.R_new' (Kd.R_new' (Kd.R_new' (Kd.R_new' ho0 (Kd.R_lt (by (with_reducible repeat (first|apply Kd.R_alloc|apply Kd.R_drewN|apply Kd.R_drew));exact HO_6.out))) (Kd.R_lt (by (with_reducible repeat (first|apply Kd.R_alloc|apply Kd.R_drewN|apply Kd.R_drew));exact HO_9.out))) (Kd.R_lt (by (with_reducible repeat (first|apply Kd.R_alloc|apply Kd.R_drewN|apply Kd.R_drew));exact HO_280001.out))) (Kd.R_lt (by (with_reducible repeat (first|apply Kd.R_alloc|apply Kd.R_drewN|apply Kd.R_drew));exact HO307.out))) (below_size (by repeat (first|(with_reducible first|exact HB.out|apply below_alloc|apply pw_below_drewN|apply below_drew1|refine below_set ?_ GE259.out|refine below_set ?_ GE279.out)|exact HB.out))))
             have n6_:=Aside0.mk (blk_below (g:=gb259) (o:=.cells #[.int .i64 a1_0,.slice A1_1 l1_1.length c1_1] 25 (0,0)) (by (with_reducible repeat (first|refine blk_drewN ?_ _|refine blk_drew ?_|refine blk_alloc ?_ _));exact BK259.out) hb)
             have n7_:=Aside0.mk (blk_below (g:=gb279) (o:=.cells #[.int .i64 t275,.slice Ao43 t296.length co43] 30 (0,0)) (by (with_reducible repeat (first|refine blk_drewN ?_ _|refine blk_drew ?_|refine blk_alloc ?_ _));exact BK279.out) hb)
             have n8_:=Aside0.mk (below_step (by repeat (first|(with_reducible first|exact HB.out|apply below_alloc|apply pw_below_drewN|apply below_drew1|refine below_set ?_ GE259.out|refine below_set ?_ GE279.out)|exact HB.out)) hb)
             clear HO_6
             clear HO_9
             clear HO_280001
             clear HO303
             clear HO307
             clear BK259
             clear BK279
             clear HB
             have HO_6:=n0_
             have HO_9:=n1_
             have HO_280001:=n2_
             have HO303:=n3_
             have HO307:=n4_
             have HO310:=n5_
             have BK259:=n6_
             have BK279:=n7_
             have HB:=n8_
             clear n0_ n1_ n2_ n3_ n4_ n5_ n6_ n7_ n8_
             (try clear hb)
             (try clear hb2)
             (try clear hk)
             (try clear hi)
             (try clear ho0)
             refine hK.out _ _ ⟨(blk_cell BK259.out 0).trans rfl,(blk_cell BK259.out 1).trans rfl⟩ (fun hHeld => ?_)
             clear hK K
             refine norm_ (a':=?_) ?_ ?_
             rotate_left
             ·show Act.put _ (some 79) _ = _
              simp only [Act.put,List.setIfInBounds_toArray,List.set_cons_zero,List.set_cons_succ,i64_w,i32_w]
              rfl
             refine pure_ (i:=5) (N:=some 13) (v:=?_) (a':=?_) #[true,true,true,true,true,true] rfl rfl (by kernel_rfl) (fun _ _ _ h => h) (Or.inl ⟨by rfl,?_⟩) ?_ ?_
             rotate_left
             ·intro w'
              go_simp
              with_reducible rfl
             rotate_left
             ·simp only [Act.put,List.setIfInBounds_toArray,List.set_cons_zero,List.set_cons_succ,i64_w,i32_w]
              rfl
             refine done_ (by kernel_rfl) ?_
             obtain ⟨Ao79,co79,eo79⟩:=Kd.R_slice HO310.out
             subst eo79
             try go_wp2_with (first|((with_reducible refine gate_callee (f:=26) rfl ?_);refine goesL_ (some 82) rfl rfl Tryd.func26 (by kernel_rfl) rfl #[.slice Ao79 t308.length co79,.slice Ao47 t269.length co47] rfl (by (try simp only [List.map_toArray,List.map_cons,List.map_nil]);first|done|rfl|(simp only [List.length_drop,List.length_take];rfl)) ?_;(with_reducible refine (laws_eqInt64S.calls kj26 _ _ t308 _ _ t269 true _ ?side1 ?side2 ?side3 ?side4 A68.out).mono ?_);(case side1 => repeat (first|exact (Kd.R_reads' HO310.out).2.2|(with_reducible first|refine Kd.C_alloc ?_ _|refine Kd.C_drewN ?_ _|refine Kd.C_drew ?_)));(case side2 => exact (Kd.R_reads' HO310.out).2.1);(case side3 => repeat (first|exact (Kd.R_reads' HO_6.out).2.2|(with_reducible first|refine Kd.C_alloc ?_ _|refine Kd.C_drewN ?_ _|refine Kd.C_drew ?_)));(case side4 => exact (Kd.R_reads' HO_6.out).2.1);rintro e w' ⟨rfl,⟨nd,rfl⟩⟩;refine ⟨_,rfl,?_⟩)|((with_reducible refine gate_callee (f:=30) rfl ?_);refine goesL_ (some 86) rfl rfl Tryd.func30 (by kernel_rfl) rfl #[.slice Ao46 t299.length co46,.int .i64 1] rfl (by (try simp only [List.map_toArray,List.map_cons,List.map_nil]);first|done|(rw [show t299.length = t280.length from (Kd.R_reads' HO_9.out).1.symm] <;> rfl)|rfl|(simp only [List.length_drop,List.length_take];rfl)) ?_;(with_reducible refine (laws_heldInt64S.calls kj26 _ _ t299 1 t312 _ ?side1 ?side2 A70.out).mono ?_);(case side1 => repeat (first|exact (Kd.R_reads' HO_9.out).2.2|(with_reducible first|refine Kd.C_alloc ?_ _|refine Kd.C_drewN ?_ _|refine Kd.C_drew ?_)));(case side2 => rw [show t299.length = t280.length from (Kd.R_reads' HO_9.out).1.symm];exact (Kd.R_reads' HO_9.out).2.1);rintro e w' ⟨rfl,⟨nd,rfl⟩⟩;refine ⟨_,rfl,?_⟩))
             go_ret
             exact ⟨by first|rfl|(simp [errW_none,errW_some] <;> rfl)|(simp [*,errW_none,errW_some] <;> rfl),by repeat (first|(with_reducible first|exact HB.out|apply below_alloc|apply pw_below_drewN|apply below_drew1|refine below_set ?_ GE259.out|refine below_set ?_ GE279.out)|exact HB.out)⟩
            ·rw [if_neg c71] at H
             have c71b0 : decide (t312 < 0) = false:=decide_eq_false c71
             clear c71
             by_cases c80 : t312 = t298
             ·rw [if_pos c80] at H
              have c80b0 : (t312 == t298) = true:=beq_iff_eq.mpr c80
              have c80b1 : (t312 != t298) = false:=bne_eq_false_iff_eq.mpr c80
              clear c80
              obtain rfl:=Option.some.inj H
              try go_wp2_with (first|((with_reducible refine gate_callee (f:=29) rfl ?_);refine goesL_ (some 66) rfl rfl Tryd.func29 (by kernel_rfl) rfl #[.slice Ao46 t280.length co46,.int .i64 1] rfl (by (try simp only [List.map_toArray,List.map_cons,List.map_nil]);first|done|rfl|(simp only [List.length_drop,List.length_take];rfl)) ?_;(with_reducible refine (laws_markInt64S.calls kj26 (fun k_ => some k_ = (.slice Ao46 t280.length co46 : Value).ownBlock) (.slice Ao46 t280.length co46) t280 1 t298 t299 w _ ?side1 ?side2 A60.out).mono ?_);(case side1 => repeat (first|(with_reducible first|exact HB.out|apply below_alloc|apply pw_below_drewN|apply below_drew1|refine below_set ?_ GE259.out|refine below_set ?_ GE279.out)|exact HB.out));(case side2 => exact Kd.R_tight rfl HO_9.out);rintro e w81 ⟨rfl,hy0,hb,hkp⟩;refine ⟨_,rfl,?_⟩;have n0_:=Aside0.mk (Kd.R_mono (ok':=fun k_ => some k_≠(.slice Ao46 t280.length co46 : Value).ownBlock∧some k_≠(.slice Ao43 t296.length co43 : Value).ownBlock) (Kd.R_keptB (HO_6.out) hkp (fun k_ hk_ hs_ => by first|exact hk_.1 hs_|exact hk_.1 hs_|exact hk_.2.1 hs_|exact hk_.2 hs_|exact hk_.2.2.1 hs_|exact hk_.2.2 hs_|exact hk_.2.2.2 hs_)) (fun k_ hk_ => by first|exact ⟨hk_.1.1,hk_.1.2⟩|(simp only [and_assoc] at hk_;exact ⟨hk_.1,hk_.2.1⟩)));have n1_:=Aside0.mk (Kd.R_reok rfl hy0 (fun k_ e_ => HO_9.out.1 k_ e_));have n2_:=Aside0.mk (Kd.R_mono (ok':=fun k_ => some k_≠(.slice Ao47 t269.length co47 : Value).ownBlock∧some k_≠(.slice Ao46 t280.length co46 : Value).ownBlock) (Kd.R_keptB (HO_280001.out) hkp (fun k_ hk_ hs_ => (hk_.2) hs_)) (fun k_ hk_ => by first|exact ⟨hk_.1.1,hk_.1.2⟩|(simp only [and_assoc] at hk_;exact ⟨hk_.1,hk_.2.1⟩)));have n3_:=Aside0.mk (blk_kept (by (with_reducible repeat (first|refine blk_drewN ?_ _|refine blk_drew ?_|refine blk_alloc ?_ _));exact BK259.out) hkp (fun hs_ => (fun e_ => (Kd.R_ne HO_9.out BK259.out (by decide)) e_) hs_));have n4_:=Aside0.mk (blk_kept (by (with_reducible repeat (first|refine blk_drewN ?_ _|refine blk_drew ?_|refine blk_alloc ?_ _));exact BK279.out) hkp (fun hs_ => (fun e_ => (Kd.R_ne HO_9.out BK279.out (by decide)) e_) hs_));have n5_:=Aside0.mk (hb);clear HO_6 HO_9 HO_280001 BK259 BK279 HB;have HO_6:=n0_;have HO_9:=n1_;have HO_280001:=n2_;have BK259:=n3_;have BK279:=n4_;have HB:=n5_;clear n0_ n1_ n2_ n3_ n4_ n5_;(try clear hb);(try clear hkp);(try clear hy0))|((with_reducible refine gate_callee (f:=30) rfl ?_);refine goesL_ (some 69) rfl rfl Tryd.func30 (by kernel_rfl) rfl #[.slice Ao46 t299.length co46,.int .i64 1] rfl (by (try simp only [List.map_toArray,List.map_cons,List.map_nil]);first|done|(rw [show t299.length = t280.length from (Kd.R_reads' HO_9.out).1.symm] <;> rfl)|rfl|(simp only [List.length_drop,List.length_take];rfl)) ?_;(with_reducible refine (laws_heldInt64S.calls kj26 _ _ t299 1 t300 _ ?side1 ?side2 A61.out).mono ?_);(case side1 => repeat (first|exact (Kd.R_reads' HO_9.out).2.2|(with_reducible first|refine Kd.C_alloc ?_ _|refine Kd.C_drewN ?_ _|refine Kd.C_drew ?_)));(case side2 => rw [show t299.length = t280.length from (Kd.R_reads' HO_9.out).1.symm];exact (Kd.R_reads' HO_9.out).2.1);rintro e w' ⟨rfl,⟨nd,rfl⟩⟩;refine ⟨_,rfl,?_⟩))
              (try (rw [drewN_self w81];generalize hq_ : World.drewN w81 _ = w81;have n0_ : Aside0 (Kd.R (Kd.int .i64) 2 w81 w.heap.size (fun k_ => some k_≠(.slice Ao47 t269.length co47 : Value).ownBlock∧some k_≠(.slice Ao46 t280.length co46 : Value).ownBlock) (.slice Ao43 t296.length co43) t296):=⟨by rw [← hq_];exact (by (with_reducible repeat (first|apply Kd.R_alloc|apply Kd.R_drewN|apply Kd.R_drew));exact HO_280001.out)⟩;have n1_ : Aside0 (Kd.R (Kd.int .i64) 2 w81 w.heap.size (fun k_ => some k_≠(.slice Ao43 t296.length co43 : Value).ownBlock∧some k_≠(.slice Ao46 t280.length co46 : Value).ownBlock) (.slice Ao47 t269.length co47) t269):=⟨by rw [← hq_];exact (by (with_reducible repeat (first|apply Kd.R_alloc|apply Kd.R_drewN|apply Kd.R_drew));exact Kd.R_mono HO_6.out (fun _ hk => ⟨hk.2,hk.1⟩))⟩;have n2_ : Aside0 (Kd.R (Kd.int .i64) 2 w81 w.heap.size (fun k_ => some k_≠(.slice Ao43 t296.length co43 : Value).ownBlock∧some k_≠(.slice Ao47 t269.length co47 : Value).ownBlock) (.slice Ao46 t280.length co46) t299):=⟨by rw [← hq_];exact (by (with_reducible repeat (first|apply Kd.R_alloc|apply Kd.R_drewN|apply Kd.R_drew));exact Kd.R_mono HO_9.out (fun _ hk => ⟨hk.2,hk.1⟩))⟩;have n3_ : Aside0 (w81.heap[gb259]? = some (.cells #[.int .i64 a1_0,.slice A1_1 l1_1.length c1_1] 25 (0,0))):=⟨by rw [← hq_];exact (by (with_reducible repeat (first|refine blk_drewN ?_ _|refine blk_drew ?_|refine blk_alloc ?_ _));exact BK259.out)⟩;have n4_ : Aside0 (w81.heap[gb279]? = some (.cells #[.int .i64 t275,.slice Ao43 t296.length co43] 30 (0,0))):=⟨by rw [← hq_];exact (by (with_reducible repeat (first|refine blk_drewN ?_ _|refine blk_drew ?_|refine blk_alloc ?_ _));exact BK279.out)⟩;have n5_ : Aside0 (Below w.heap.size w w81):=⟨by rw [← hq_];exact (by repeat (first|(with_reducible first|exact HB.out|apply below_alloc|apply pw_below_drewN|apply below_drew1|refine below_set ?_ GE259.out|refine below_set ?_ GE279.out)|exact HB.out))⟩;clear HO_280001 HO_6 HO_9 BK259 BK279 HB hq_;have HO_280001:=n0_;have HO_6:=n1_;have HO_9:=n2_;have BK259:=n3_;have BK279:=n4_;have HB:=n5_;clear n0_ n1_ n2_ n3_ n4_ n5_))
              have n0_:=Aside0.mk (Kd.R_drew HO_6.out)
              have n1_:=Aside0.mk (Kd.R_drew HO_9.out)
              have n2_:=Aside0.mk (Kd.R_drew HO_280001.out)
              have n3_:=Aside0.mk (blk_drew BK259.out)
              have n4_:=Aside0.mk (blk_drew BK279.out)
              have n5_:=Aside0.mk (below_drew1 HB.out)
              clear HO_6
              clear HO_9
              clear HO_280001
              clear BK259
              clear BK279
              clear HB
              have HO_6:=n0_
              have HO_9:=n1_
              have HO_280001:=n2_
              have BK259:=n3_
              have BK279:=n4_
              have HB:=n5_
              clear n0_ n1_ n2_ n3_ n4_ n5_
              refine start_ (n:=6) (S:=fun w' => w'.cell? ⟨gb259,0,none⟩ = some (.int .i64 a1_0)∧w'.cell? ⟨gb259,1,none⟩ = some (.slice A1_1 l1_1.length c1_1)) (ds:=[]) #[false,false,false,false,false,false] (by kernel_rfl) rfl rfl ⟨(blk_cell BK259.out 0).trans rfl,(blk_cell BK259.out 1).trans rfl⟩ (fun hHeld => ?_)
              generalize w81.drew = w82 at HO_6 HO_9 HO_280001 BK259 BK279 HB hHeld ⊢
              refine pure_ (i:=0) (N:=some 75) (v:=?_) (a':=?_) #[true,false,false,false,false,false] rfl rfl (by kernel_rfl) (fun _ _ _ h => h) (Or.inl ⟨by rfl,?_⟩) ?_ ?_
              rotate_left
              ·intro w'
               go_simp
               with_reducible rfl
              rotate_left
              ·simp only [Act.put,List.setIfInBounds_toArray,List.set_cons_zero,List.set_cons_succ,i64_w,i32_w]
               rfl
              refine take_ (i:=2) (N:=some 77) (v:=?_) (a':=?_) #[true,false,true,false,false,false] rfl rfl (by kernel_rfl) (fun _ _ _ h => h) (Or.inl ⟨by rfl,?_⟩) hHeld ?_ ?_
              rotate_left
              ·rintro w' ⟨s0,s1⟩
               go_simp
               with_reducible rfl
              rotate_left
              ·simp only [Act.put,List.setIfInBounds_toArray,List.set_cons_zero,List.set_cons_succ,i64_w,i32_w]
               rfl
              refine one_ (i:=1) (N:=some 76) #[true,true,true,false,false,false] rfl rfl (by kernel_rfl) (by decide) (fun K hK => ?_)
              refine goes_ Tryd.func19 (by kernel_rfl) rfl #[.slice A0 l0.length c0] (by rfl) rfl rfl (by (try simp only [List.map_toArray,List.map_cons,List.map_nil]);first|done|rfl|(simp only [List.length_drop,List.length_take];rfl)) ?_
              with_reducible refine (laws_toStringS.calls kj26 _ _ l0 t301 _ ?side1 ?side2 A65.out).mono ?_
              (case side1 => repeat (first|exact (Kd.C_below HR0.out HB.out)|(with_reducible first|refine Kd.C_alloc ?_ _|refine Kd.C_drewN ?_ _|refine Kd.C_drew ?_)))
              (case side2 => exact HC0.out)
              rintro e w83 ⟨v302,rfl,ho0,hb⟩
              refine ⟨_,rfl,?_⟩
              have n0_:=Aside0.mk (Kd.R_below (by (with_reducible repeat (first|apply Kd.R_alloc|apply Kd.R_drewN|apply Kd.R_drew));exact HO_6.out) hb)
              have n1_:=Aside0.mk (Kd.R_below (by (with_reducible repeat (first|apply Kd.R_alloc|apply Kd.R_drewN|apply Kd.R_drew));exact HO_9.out) hb)
              have n2_:=Aside0.mk (Kd.R_below (by (with_reducible repeat (first|apply Kd.R_alloc|apply Kd.R_drewN|apply Kd.R_drew));exact HO_280001.out) hb)
              have n3_:=Aside0.mk (Kd.R_lower ho0 (below_size (by repeat (first|(with_reducible first|exact HB.out|apply below_alloc|apply pw_below_drewN|apply below_drew1|refine below_set ?_ GE259.out|refine below_set ?_ GE279.out)|exact HB.out))))
              have n4_:=Aside0.mk (blk_below (g:=gb259) (o:=.cells #[.int .i64 a1_0,.slice A1_1 l1_1.length c1_1] 25 (0,0)) (by (with_reducible repeat (first|refine blk_drewN ?_ _|refine blk_drew ?_|refine blk_alloc ?_ _));exact BK259.out) hb)
              have n5_:=Aside0.mk (blk_below (g:=gb279) (o:=.cells #[.int .i64 t275,.slice Ao43 t296.length co43] 30 (0,0)) (by (with_reducible repeat (first|refine blk_drewN ?_ _|refine blk_drew ?_|refine blk_alloc ?_ _));exact BK279.out) hb)
              have n6_:=Aside0.mk (below_step (by repeat (first|(with_reducible first|exact HB.out|apply below_alloc|apply pw_below_drewN|apply below_drew1|refine below_set ?_ GE259.out|refine below_set ?_ GE279.out)|exact HB.out)) hb)
              clear HO_6
              clear HO_9
              clear HO_280001
              clear BK259
              clear BK279
              clear HB
              have HO_6:=n0_
              have HO_9:=n1_
              have HO_280001:=n2_
              have HO303:=n3_
              have BK259:=n4_
              have BK279:=n5_
              have HB:=n6_
              clear n0_ n1_ n2_ n3_ n4_ n5_ n6_
              (try clear hb)
              (try clear hb2)
              (try clear hk)
              (try clear hi)
              (try clear ho0)
              refine hK.out _ _ ⟨(blk_cell BK259.out 0).trans rfl,(blk_cell BK259.out 1).trans rfl⟩ (fun hHeld => ?_)
              clear hK K
              refine norm_ (a':=?_) ?_ ?_
              rotate_left
              ·show Act.put _ (some 76) _ = _
               simp only [Act.put,List.setIfInBounds_toArray,List.set_cons_zero,List.set_cons_succ,i64_w,i32_w]
               rfl
              refine one_ (i:=3) (N:=some 78) #[true,true,true,true,false,false] rfl rfl (by kernel_rfl) (by decide) (fun K hK => ?_)
              refine goes_ Tryd.func20 (by kernel_rfl) rfl #[.agg #[.int .i64 a1_0,.slice A1_1 l1_1.length c1_1]] (by rfl) rfl rfl (by (try simp only [List.map_toArray,List.map_cons,List.map_nil]);first|done|rfl|(simp only [List.length_drop,List.length_take];rfl)) ?_
              with_reducible refine (laws_toNursery.calls kj26 a1_0 _ _ l1_1 t304 t305 _ ?side1 ?side2 A66.out).mono ?_
              (case side1 => repeat (first|exact (Kd.C_below HR1_1.out HB.out)|(with_reducible first|refine Kd.C_alloc ?_ _|refine Kd.C_drewN ?_ _|refine Kd.C_drew ?_)))
              (case side2 => exact HC1_1.out)
              rintro e w84 ⟨v306,rfl,ho0,hb⟩
              refine ⟨_,rfl,?_⟩
              have n0_:=Aside0.mk (Kd.R_elder' (by (with_reducible repeat (first|apply Kd.R_alloc|apply Kd.R_drewN|apply Kd.R_drew));exact HO_6.out) (Kd.R_base ho0) hb)
              have n1_:=Aside0.mk (Kd.R_elder' (by (with_reducible repeat (first|apply Kd.R_alloc|apply Kd.R_drewN|apply Kd.R_drew));exact HO_9.out) (Kd.R_base ho0) hb)
              have n2_:=Aside0.mk (Kd.R_elder' (by (with_reducible repeat (first|apply Kd.R_alloc|apply Kd.R_drewN|apply Kd.R_drew));exact HO_280001.out) (Kd.R_base ho0) hb)
              have n3_:=Aside0.mk (Kd.R_below (by (with_reducible repeat (first|apply Kd.R_alloc|apply Kd.R_drewN|apply Kd.R_drew));exact HO303.out) hb)
              have n4_:=Aside0.mk (Kd.R_lower (Kd.R_new' (Kd.R_new' (Kd.R_new' ho0 (Kd.R_lt (by (with_reducible repeat (first|apply Kd.R_alloc|apply Kd.R_drewN|apply Kd.R_drew));exact HO_6.out))) (Kd.R_lt (by (with_reducible repeat (first|apply Kd.R_alloc|apply Kd.R_drewN|apply Kd.R_drew));exact HO_9.out))) (Kd.R_lt (by (with_reducible repeat (first|apply Kd.R_alloc|apply Kd.R_drewN|apply Kd.R_drew));exact HO_280001.out))) (below_size (by repeat (first|(with_reducible first|exact HB.out|apply below_alloc|apply pw_below_drewN|apply below_drew1|refine below_set ?_ GE259.out|refine below_set ?_ GE279.out)|exact HB.out))))
              have n5_:=Aside0.mk (blk_below (g:=gb259) (o:=.cells #[.int .i64 a1_0,.slice A1_1 l1_1.length c1_1] 25 (0,0)) (by (with_reducible repeat (first|refine blk_drewN ?_ _|refine blk_drew ?_|refine blk_alloc ?_ _));exact BK259.out) hb)
              have n6_:=Aside0.mk (blk_below (g:=gb279) (o:=.cells #[.int .i64 t275,.slice Ao43 t296.length co43] 30 (0,0)) (by (with_reducible repeat (first|refine blk_drewN ?_ _|refine blk_drew ?_|refine blk_alloc ?_ _));exact BK279.out) hb)
              have n7_:=Aside0.mk (below_step (by repeat (first|(with_reducible first|exact HB.out|apply below_alloc|apply pw_below_drewN|apply below_drew1|refine below_set ?_ GE259.out|refine below_set ?_ GE279.out)|exact HB.out)) hb)
              clear HO_6
              clear HO_9
              clear HO_280001
              clear HO303
              clear BK259
              clear BK279
              clear HB
              have HO_6:=n0_
              have HO_9:=n1_
              have HO_280001:=n2_
              have HO303:=n3_
              have HO307:=n4_
              have BK259:=n5_
              have BK279:=n6_
              have HB:=n7_
              clear n0_ n1_ n2_ n3_ n4_ n5_ n6_ n7_
              (try clear hb)
              (try clear hb2)
              (try clear hk)
              (try clear hi)
              (try clear ho0)
              obtain ⟨Ao85,co85,eo85⟩:=Kd.R_slice HO303.out
              (first|subst eo85|(injection eo85 with f1_ f2_ f3_;have f4_:=f1_.symm;have f5_:=f3_.symm;clear f1_ f2_ f3_;subst f4_;subst f5_))
              obtain ⟨Ao86,co86,eo86⟩:=Kd.R_slice HO307.out
              (first|subst eo86|(injection eo86 with f1_ f2_ f3_;have f4_:=f1_.symm;have f5_:=f3_.symm;clear f1_ f2_ f3_;subst f4_;subst f5_))
              refine hK.out _ _ ⟨(blk_cell BK259.out 0).trans rfl,(blk_cell BK259.out 1).trans rfl⟩ (fun hHeld => ?_)
              clear hK K
              refine norm_ (a':=?_) ?_ ?_
              rotate_left
              ·show Act.put _ (some 78) _ = _
               simp only [Act.put,List.setIfInBounds_toArray,List.set_cons_zero,List.set_cons_succ,i64_w,i32_w]
               rfl
              refine one_ (i:=4) (N:=some 79) #[true,true,true,true,true,false] rfl rfl (by kernel_rfl) (by decide) (fun K hK => ?_)
              refine goes_ Tryd.func25 (by kernel_rfl) rfl #[.slice Ao85 t301.length co85,.agg #[.int .i64 t304,.slice Ao86 t305.length co86]] (by rfl) rfl rfl (by (try simp only [List.map_toArray,List.map_cons,List.map_nil]);first|done|rfl|(simp only [List.length_drop,List.length_take];rfl)) ?_
              with_reducible refine (impl_Starts.calls kj26 _ _ t301 t304 _ _ t305 t308 _ ?side1 ?side2 ?side3 ?side4 A67.out).mono ?_
              (case side1 => repeat (first|exact (Kd.R_reads' HO303.out).2.2|(with_reducible first|refine Kd.C_alloc ?_ _|refine Kd.C_drewN ?_ _|refine Kd.C_drew ?_)))
              (case side2 => exact (Kd.R_reads' HO303.out).2.1)
              (case side3 => repeat (first|exact (Kd.R_reads' HO307.out).2.2|(with_reducible first|refine Kd.C_alloc ?_ _|refine Kd.C_drewN ?_ _|refine Kd.C_drew ?_)))
              (case side4 => exact (Kd.R_reads' HO307.out).2.1)
              rintro e w87 ⟨v309,rfl,ho0,hb⟩
              refine ⟨_,rfl,?_⟩
              have n0_:=Aside0.mk (Kd.R_elder' (by (with_reducible repeat (first|apply Kd.R_alloc|apply Kd.R_drewN|apply Kd.R_drew));exact HO_6.out) (Kd.R_base ho0) hb)
              have n1_:=Aside0.mk (Kd.R_elder' (by (with_reducible repeat (first|apply Kd.R_alloc|apply Kd.R_drewN|apply Kd.R_drew));exact HO_9.out) (Kd.R_base ho0) hb)
              have n2_:=Aside0.mk (Kd.R_elder' (by (with_reducible repeat (first|apply Kd.R_alloc|apply Kd.R_drewN|apply Kd.R_drew));exact HO_280001.out) (Kd.R_base ho0) hb)
              have n3_:=Aside0.mk (Kd.R_below (by (with_reducible repeat (first|apply Kd.R_alloc|apply Kd.R_drewN|apply Kd.R_drew));exact HO303.out) hb)
              have n4_:=Aside0.mk (Kd.R_elder' (by (with_reducible repeat (first|apply Kd.R_alloc|apply Kd.R_drewN|apply Kd.R_drew));exact HO307.out) (Kd.R_base ho0) hb)
              have n5_:=Aside0.mk (Kd.R_lower (Kd.R_new' (Kd.R_new' (Kd.R_new' (Kd.R_new' ho0 (Kd.R_lt (by (with_reducible repeat (first|apply Kd.R_alloc|apply Kd.R_drewN|apply Kd.R_drew));exact HO_6.out))) (Kd.R_lt (by (with_reducible repeat (first|apply Kd.R_alloc|apply Kd.R_drewN|apply Kd.R_drew));exact HO_9.out))) (Kd.R_lt (by (with_reducible repeat (first|apply Kd.R_alloc|apply Kd.R_drewN|apply Kd.R_drew));exact HO_280001.out))) (Kd.R_lt (by (with_reducible repeat (first|apply Kd.R_alloc|apply Kd.R_drewN|apply Kd.R_drew));exact HO307.out))) (below_size (by repeat (first|(with_reducible first|exact HB.out|apply below_alloc|apply pw_below_drewN|apply below_drew1|refine below_set ?_ GE259.out|refine below_set ?_ GE279.out)|exact HB.out))))
              have n6_:=Aside0.mk (blk_below (g:=gb259) (o:=.cells #[.int .i64 a1_0,.slice A1_1 l1_1.length c1_1] 25 (0,0)) (by (with_reducible repeat (first|refine blk_drewN ?_ _|refine blk_drew ?_|refine blk_alloc ?_ _));exact BK259.out) hb)
              have n7_:=Aside0.mk (blk_below (g:=gb279) (o:=.cells #[.int .i64 t275,.slice Ao43 t296.length co43] 30 (0,0)) (by (with_reducible repeat (first|refine blk_drewN ?_ _|refine blk_drew ?_|refine blk_alloc ?_ _));exact BK279.out) hb)
              have n8_:=Aside0.mk (below_step (by repeat (first|(with_reducible first|exact HB.out|apply below_alloc|apply pw_below_drewN|apply below_drew1|refine below_set ?_ GE259.out|refine below_set ?_ GE279.out)|exact HB.out)) hb)
              clear HO_6
              clear HO_9
              clear HO_280001
              clear HO303
              clear HO307
              clear BK259
              clear BK279
              clear HB
              have HO_6:=n0_
              have HO_9:=n1_
              have HO_280001:=n2_
              have HO303:=n3_
              have HO307:=n4_
              have HO310:=n5_
              have BK259:=n6_
              have BK279:=n7_
              have HB:=n8_
              clear n0_ n1_ n2_ n3_ n4_ n5_ n6_ n7_ n8_
              (try clear hb)
              (try clear hb2)
              (try clear hk)
              (try clear hi)
              (try clear ho0)
              refine hK.out _ _ ⟨(blk_cell BK259.out 0).trans rfl,(blk_cell BK259.out 1).trans rfl⟩ (fun hHeld => ?_)
              clear hK K
              refine norm_ (a':=?_) ?_ ?_
              rotate_left
              ·show Act.put _ (some 79) _ = _
               simp only [Act.put,List.setIfInBounds_toArray,List.set_cons_zero,List.set_cons_succ,i64_w,i32_w]
               rfl
              refine pure_ (i:=5) (N:=some 13) (v:=?_) (a':=?_) #[true,true,true,true,true,true] rfl rfl (by kernel_rfl) (fun _ _ _ h => h) (Or.inl ⟨by rfl,?_⟩) ?_ ?_
              rotate_left
              ·intro w'
               go_simp
               with_reducible rfl
              rotate_left
              ·simp only [Act.put,List.setIfInBounds_toArray,List.set_cons_zero,List.set_cons_succ,i64_w,i32_w]
               rfl
              refine done_ (by kernel_rfl) ?_
              obtain ⟨Ao88,co88,eo88⟩:=Kd.R_slice HO310.out
              subst eo88
              try go_wp2_with (first|((with_reducible refine gate_callee (f:=26) rfl ?_);refine goesL_ (some 82) rfl rfl Tryd.func26 (by kernel_rfl) rfl #[.slice Ao88 t308.length co88,.slice Ao47 t269.length co47] rfl (by (try simp only [List.map_toArray,List.map_cons,List.map_nil]);first|done|rfl|(simp only [List.length_drop,List.length_take];rfl)) ?_;(with_reducible refine (laws_eqInt64S.calls kj26 _ _ t308 _ _ t269 true _ ?side1 ?side2 ?side3 ?side4 A68.out).mono ?_);(case side1 => repeat (first|exact (Kd.R_reads' HO310.out).2.2|(with_reducible first|refine Kd.C_alloc ?_ _|refine Kd.C_drewN ?_ _|refine Kd.C_drew ?_)));(case side2 => exact (Kd.R_reads' HO310.out).2.1);(case side3 => repeat (first|exact (Kd.R_reads' HO_6.out).2.2|(with_reducible first|refine Kd.C_alloc ?_ _|refine Kd.C_drewN ?_ _|refine Kd.C_drew ?_)));(case side4 => exact (Kd.R_reads' HO_6.out).2.1);rintro e w' ⟨rfl,⟨nd,rfl⟩⟩;refine ⟨_,rfl,?_⟩)|((with_reducible refine gate_callee (f:=30) rfl ?_);refine goesL_ (some 86) rfl rfl Tryd.func30 (by kernel_rfl) rfl #[.slice Ao46 t299.length co46,.int .i64 1] rfl (by (try simp only [List.map_toArray,List.map_cons,List.map_nil]);first|done|(rw [show t299.length = t280.length from (Kd.R_reads' HO_9.out).1.symm] <;> rfl)|rfl|(simp only [List.length_drop,List.length_take];rfl)) ?_;(with_reducible refine (laws_heldInt64S.calls kj26 _ _ t299 1 t312 _ ?side1 ?side2 A70.out).mono ?_);(case side1 => repeat (first|exact (Kd.R_reads' HO_9.out).2.2|(with_reducible first|refine Kd.C_alloc ?_ _|refine Kd.C_drewN ?_ _|refine Kd.C_drew ?_)));(case side2 => rw [show t299.length = t280.length from (Kd.R_reads' HO_9.out).1.symm];exact (Kd.R_reads' HO_9.out).2.1);rintro e w' ⟨rfl,⟨nd,rfl⟩⟩;refine ⟨_,rfl,?_⟩))
              go_ret
              exact ⟨by first|rfl|(simp [errW_none,errW_some] <;> rfl)|(simp [*,errW_none,errW_some] <;> rfl),by repeat (first|(with_reducible first|exact HB.out|apply below_alloc|apply pw_below_drewN|apply below_drew1|refine below_set ?_ GE259.out|refine below_set ?_ GE279.out)|exact HB.out)⟩
             ·rw [if_neg c80] at H
              have c80b0 : (t312 == t298) = false:=beq_eq_false_iff_ne.mpr c80
              have c80b1 : (t312 != t298) = true:=bne_iff_ne.mpr c80
              obtain rfl:=Option.some.inj H
              try go_wp2_with (first|((with_reducible refine gate_callee (f:=29) rfl ?_);refine goesL_ (some 66) rfl rfl Tryd.func29 (by kernel_rfl) rfl #[.slice Ao46 t280.length co46,.int .i64 1] rfl (by (try simp only [List.map_toArray,List.map_cons,List.map_nil]);first|done|rfl|(simp only [List.length_drop,List.length_take];rfl)) ?_;(with_reducible refine (laws_markInt64S.calls kj26 (fun k_ => some k_ = (.slice Ao46 t280.length co46 : Value).ownBlock) (.slice Ao46 t280.length co46) t280 1 t298 t299 w _ ?side1 ?side2 A60.out).mono ?_);(case side1 => repeat (first|(with_reducible first|exact HB.out|apply below_alloc|apply pw_below_drewN|apply below_drew1|refine below_set ?_ GE259.out|refine below_set ?_ GE279.out)|exact HB.out));(case side2 => exact Kd.R_tight rfl HO_9.out);rintro e w89 ⟨rfl,hy0,hb,hkp⟩;refine ⟨_,rfl,?_⟩;have n0_:=Aside0.mk (Kd.R_mono (ok':=fun k_ => some k_≠(.slice Ao46 t280.length co46 : Value).ownBlock∧some k_≠(.slice Ao43 t296.length co43 : Value).ownBlock) (Kd.R_keptB (HO_6.out) hkp (fun k_ hk_ hs_ => by first|exact hk_.1 hs_|exact hk_.1 hs_|exact hk_.2.1 hs_|exact hk_.2 hs_|exact hk_.2.2.1 hs_|exact hk_.2.2 hs_|exact hk_.2.2.2 hs_)) (fun k_ hk_ => by first|exact ⟨hk_.1.1,hk_.1.2⟩|(simp only [and_assoc] at hk_;exact ⟨hk_.1,hk_.2.1⟩)));have n1_:=Aside0.mk (Kd.R_reok rfl hy0 (fun k_ e_ => HO_9.out.1 k_ e_));have n2_:=Aside0.mk (Kd.R_mono (ok':=fun k_ => some k_≠(.slice Ao47 t269.length co47 : Value).ownBlock∧some k_≠(.slice Ao46 t280.length co46 : Value).ownBlock) (Kd.R_keptB (HO_280001.out) hkp (fun k_ hk_ hs_ => (hk_.2) hs_)) (fun k_ hk_ => by first|exact ⟨hk_.1.1,hk_.1.2⟩|(simp only [and_assoc] at hk_;exact ⟨hk_.1,hk_.2.1⟩)));have n3_:=Aside0.mk (blk_kept (by (with_reducible repeat (first|refine blk_drewN ?_ _|refine blk_drew ?_|refine blk_alloc ?_ _));exact BK259.out) hkp (fun hs_ => (fun e_ => (Kd.R_ne HO_9.out BK259.out (by decide)) e_) hs_));have n4_:=Aside0.mk (blk_kept (by (with_reducible repeat (first|refine blk_drewN ?_ _|refine blk_drew ?_|refine blk_alloc ?_ _));exact BK279.out) hkp (fun hs_ => (fun e_ => (Kd.R_ne HO_9.out BK279.out (by decide)) e_) hs_));have n5_:=Aside0.mk (hb);clear HO_6 HO_9 HO_280001 BK259 BK279 HB;have HO_6:=n0_;have HO_9:=n1_;have HO_280001:=n2_;have BK259:=n3_;have BK279:=n4_;have HB:=n5_;clear n0_ n1_ n2_ n3_ n4_ n5_;(try clear hb);(try clear hkp);(try clear hy0))|((with_reducible refine gate_callee (f:=30) rfl ?_);refine goesL_ (some 69) rfl rfl Tryd.func30 (by kernel_rfl) rfl #[.slice Ao46 t299.length co46,.int .i64 1] rfl (by (try simp only [List.map_toArray,List.map_cons,List.map_nil]);first|done|(rw [show t299.length = t280.length from (Kd.R_reads' HO_9.out).1.symm] <;> rfl)|rfl|(simp only [List.length_drop,List.length_take];rfl)) ?_;(with_reducible refine (laws_heldInt64S.calls kj26 _ _ t299 1 t300 _ ?side1 ?side2 A61.out).mono ?_);(case side1 => repeat (first|exact (Kd.R_reads' HO_9.out).2.2|(with_reducible first|refine Kd.C_alloc ?_ _|refine Kd.C_drewN ?_ _|refine Kd.C_drew ?_)));(case side2 => rw [show t299.length = t280.length from (Kd.R_reads' HO_9.out).1.symm];exact (Kd.R_reads' HO_9.out).2.1);rintro e w' ⟨rfl,⟨nd,rfl⟩⟩;refine ⟨_,rfl,?_⟩))
              (try (rw [drewN_self w89];generalize hq_ : World.drewN w89 _ = w89;have n0_ : Aside0 (Kd.R (Kd.int .i64) 2 w89 w.heap.size (fun k_ => some k_≠(.slice Ao47 t269.length co47 : Value).ownBlock∧some k_≠(.slice Ao46 t280.length co46 : Value).ownBlock) (.slice Ao43 t296.length co43) t296):=⟨by rw [← hq_];exact (by (with_reducible repeat (first|apply Kd.R_alloc|apply Kd.R_drewN|apply Kd.R_drew));exact HO_280001.out)⟩;have n1_ : Aside0 (Kd.R (Kd.int .i64) 2 w89 w.heap.size (fun k_ => some k_≠(.slice Ao43 t296.length co43 : Value).ownBlock∧some k_≠(.slice Ao46 t280.length co46 : Value).ownBlock) (.slice Ao47 t269.length co47) t269):=⟨by rw [← hq_];exact (by (with_reducible repeat (first|apply Kd.R_alloc|apply Kd.R_drewN|apply Kd.R_drew));exact Kd.R_mono HO_6.out (fun _ hk => ⟨hk.2,hk.1⟩))⟩;have n2_ : Aside0 (Kd.R (Kd.int .i64) 2 w89 w.heap.size (fun k_ => some k_≠(.slice Ao43 t296.length co43 : Value).ownBlock∧some k_≠(.slice Ao47 t269.length co47 : Value).ownBlock) (.slice Ao46 t280.length co46) t299):=⟨by rw [← hq_];exact (by (with_reducible repeat (first|apply Kd.R_alloc|apply Kd.R_drewN|apply Kd.R_drew));exact Kd.R_mono HO_9.out (fun _ hk => ⟨hk.2,hk.1⟩))⟩;have n3_ : Aside0 (w89.heap[gb259]? = some (.cells #[.int .i64 a1_0,.slice A1_1 l1_1.length c1_1] 25 (0,0))):=⟨by rw [← hq_];exact (by (with_reducible repeat (first|refine blk_drewN ?_ _|refine blk_drew ?_|refine blk_alloc ?_ _));exact BK259.out)⟩;have n4_ : Aside0 (w89.heap[gb279]? = some (.cells #[.int .i64 t275,.slice Ao43 t296.length co43] 30 (0,0))):=⟨by rw [← hq_];exact (by (with_reducible repeat (first|refine blk_drewN ?_ _|refine blk_drew ?_|refine blk_alloc ?_ _));exact BK279.out)⟩;have n5_ : Aside0 (Below w.heap.size w w89):=⟨by rw [← hq_];exact (by repeat (first|(with_reducible first|exact HB.out|apply below_alloc|apply pw_below_drewN|apply below_drew1|refine below_set ?_ GE259.out|refine below_set ?_ GE279.out)|exact HB.out))⟩;clear HO_280001 HO_6 HO_9 BK259 BK279 HB hq_;have HO_280001:=n0_;have HO_6:=n1_;have HO_9:=n2_;have BK259:=n3_;have BK279:=n4_;have HB:=n5_;clear n0_ n1_ n2_ n3_ n4_ n5_))
              have n0_:=Aside0.mk (Kd.R_drew HO_6.out)
              have n1_:=Aside0.mk (Kd.R_drew HO_9.out)
              have n2_:=Aside0.mk (Kd.R_drew HO_280001.out)
              have n3_:=Aside0.mk (blk_drew BK259.out)
              have n4_:=Aside0.mk (blk_drew BK279.out)
              have n5_:=Aside0.mk (below_drew1 HB.out)
              clear HO_6
              clear HO_9
              clear HO_280001
              clear BK259
              clear BK279
              clear HB
              have HO_6:=n0_
              have HO_9:=n1_
              have HO_280001:=n2_
              have BK259:=n3_
              have BK279:=n4_
              have HB:=n5_
              clear n0_ n1_ n2_ n3_ n4_ n5_
              refine start_ (n:=6) (S:=fun w' => w'.cell? ⟨gb259,0,none⟩ = some (.int .i64 a1_0)∧w'.cell? ⟨gb259,1,none⟩ = some (.slice A1_1 l1_1.length c1_1)) (ds:=[]) #[false,false,false,false,false,false] (by kernel_rfl) rfl rfl ⟨(blk_cell BK259.out 0).trans rfl,(blk_cell BK259.out 1).trans rfl⟩ (fun hHeld => ?_)
              generalize w89.drew = w90 at HO_6 HO_9 HO_280001 BK259 BK279 HB hHeld ⊢
              refine pure_ (i:=0) (N:=some 75) (v:=?_) (a':=?_) #[true,false,false,false,false,false] rfl rfl (by kernel_rfl) (fun _ _ _ h => h) (Or.inl ⟨by rfl,?_⟩) ?_ ?_
              rotate_left
              ·intro w'
               go_simp
               with_reducible rfl
              rotate_left
              ·simp only [Act.put,List.setIfInBounds_toArray,List.set_cons_zero,List.set_cons_succ,i64_w,i32_w]
               rfl
              refine take_ (i:=2) (N:=some 77) (v:=?_) (a':=?_) #[true,false,true,false,false,false] rfl rfl (by kernel_rfl) (fun _ _ _ h => h) (Or.inl ⟨by rfl,?_⟩) hHeld ?_ ?_
              rotate_left
              ·rintro w' ⟨s0,s1⟩
               go_simp
               with_reducible rfl
              rotate_left
              ·simp only [Act.put,List.setIfInBounds_toArray,List.set_cons_zero,List.set_cons_succ,i64_w,i32_w]
               rfl
              refine one_ (i:=1) (N:=some 76) #[true,true,true,false,false,false] rfl rfl (by kernel_rfl) (by decide) (fun K hK => ?_)
              refine goes_ Tryd.func19 (by kernel_rfl) rfl #[.slice A0 l0.length c0] (by rfl) rfl rfl (by (try simp only [List.map_toArray,List.map_cons,List.map_nil]);first|done|rfl|(simp only [List.length_drop,List.length_take];rfl)) ?_
              with_reducible refine (laws_toStringS.calls kj26 _ _ l0 t301 _ ?side1 ?side2 A65.out).mono ?_
              (case side1 => repeat (first|exact (Kd.C_below HR0.out HB.out)|(with_reducible first|refine Kd.C_alloc ?_ _|refine Kd.C_drewN ?_ _|refine Kd.C_drew ?_)))
              (case side2 => exact HC0.out)
              rintro e w91 ⟨v302,rfl,ho0,hb⟩
              refine ⟨_,rfl,?_⟩
              have n0_:=Aside0.mk (Kd.R_below (by (with_reducible repeat (first|apply Kd.R_alloc|apply Kd.R_drewN|apply Kd.R_drew));exact HO_6.out) hb)
              have n1_:=Aside0.mk (Kd.R_below (by (with_reducible repeat (first|apply Kd.R_alloc|apply Kd.R_drewN|apply Kd.R_drew));exact HO_9.out) hb)
              have n2_:=Aside0.mk (Kd.R_below (by (with_reducible repeat (first|apply Kd.R_alloc|apply Kd.R_drewN|apply Kd.R_drew));exact HO_280001.out) hb)
              have n3_:=Aside0.mk (Kd.R_lower ho0 (below_size (by repeat (first|(with_reducible first|exact HB.out|apply below_alloc|apply pw_below_drewN|apply below_drew1|refine below_set ?_ GE259.out|refine below_set ?_ GE279.out)|exact HB.out))))
              have n4_:=Aside0.mk (blk_below (g:=gb259) (o:=.cells #[.int .i64 a1_0,.slice A1_1 l1_1.length c1_1] 25 (0,0)) (by (with_reducible repeat (first|refine blk_drewN ?_ _|refine blk_drew ?_|refine blk_alloc ?_ _));exact BK259.out) hb)
              have n5_:=Aside0.mk (blk_below (g:=gb279) (o:=.cells #[.int .i64 t275,.slice Ao43 t296.length co43] 30 (0,0)) (by (with_reducible repeat (first|refine blk_drewN ?_ _|refine blk_drew ?_|refine blk_alloc ?_ _));exact BK279.out) hb)
              have n6_:=Aside0.mk (below_step (by repeat (first|(with_reducible first|exact HB.out|apply below_alloc|apply pw_below_drewN|apply below_drew1|refine below_set ?_ GE259.out|refine below_set ?_ GE279.out)|exact HB.out)) hb)
              clear HO_6
              clear HO_9
              clear HO_280001
              clear BK259
              clear BK279
              clear HB
              have HO_6:=n0_
              have HO_9:=n1_
              have HO_280001:=n2_
              have HO303:=n3_
              have BK259:=n4_
              have BK279:=n5_
              have HB:=n6_
              clear n0_ n1_ n2_ n3_ n4_ n5_ n6_
              (try clear hb)
              (try clear hb2)
              (try clear hk)
              (try clear hi)
              (try clear ho0)
              refine hK.out _ _ ⟨(blk_cell BK259.out 0).trans rfl,(blk_cell BK259.out 1).trans rfl⟩ (fun hHeld => ?_)
              clear hK K
              refine norm_ (a':=?_) ?_ ?_
              rotate_left
              ·show Act.put _ (some 76) _ = _
               simp only [Act.put,List.setIfInBounds_toArray,List.set_cons_zero,List.set_cons_succ,i64_w,i32_w]
               rfl
              refine one_ (i:=3) (N:=some 78) #[true,true,true,true,false,false] rfl rfl (by kernel_rfl) (by decide) (fun K hK => ?_)
              refine goes_ Tryd.func20 (by kernel_rfl) rfl #[.agg #[.int .i64 a1_0,.slice A1_1 l1_1.length c1_1]] (by rfl) rfl rfl (by (try simp only [List.map_toArray,List.map_cons,List.map_nil]);first|done|rfl|(simp only [List.length_drop,List.length_take];rfl)) ?_
              with_reducible refine (laws_toNursery.calls kj26 a1_0 _ _ l1_1 t304 t305 _ ?side1 ?side2 A66.out).mono ?_
              (case side1 => repeat (first|exact (Kd.C_below HR1_1.out HB.out)|(with_reducible first|refine Kd.C_alloc ?_ _|refine Kd.C_drewN ?_ _|refine Kd.C_drew ?_)))
              (case side2 => exact HC1_1.out)
              rintro e w92 ⟨v306,rfl,ho0,hb⟩
              refine ⟨_,rfl,?_⟩
              have n0_:=Aside0.mk (Kd.R_elder' (by (with_reducible repeat (first|apply Kd.R_alloc|apply Kd.R_drewN|apply Kd.R_drew));exact HO_6.out) (Kd.R_base ho0) hb)
              have n1_:=Aside0.mk (Kd.R_elder' (by (with_reducible repeat (first|apply Kd.R_alloc|apply Kd.R_drewN|apply Kd.R_drew));exact HO_9.out) (Kd.R_base ho0) hb)
              have n2_:=Aside0.mk (Kd.R_elder' (by (with_reducible repeat (first|apply Kd.R_alloc|apply Kd.R_drewN|apply Kd.R_drew));exact HO_280001.out) (Kd.R_base ho0) hb)
              have n3_:=Aside0.mk (Kd.R_below (by (with_reducible repeat (first|apply Kd.R_alloc|apply Kd.R_drewN|apply Kd.R_drew));exact HO303.out) hb)
              have n4_:=Aside0.mk (Kd.R_lower (Kd.R_new' (Kd.R_new' (Kd.R_new' ho0 (Kd.R_lt (by (with_reducible repeat (first|apply Kd.R_alloc|apply Kd.R_drewN|apply Kd.R_drew));exact HO_6.out))) (Kd.R_lt (by (with_reducible repeat (first|apply Kd.R_alloc|apply Kd.R_drewN|apply Kd.R_drew));exact HO_9.out))) (Kd.R_lt (by (with_reducible repeat (first|apply Kd.R_alloc|apply Kd.R_drewN|apply Kd.R_drew));exact HO_280001.out))) (below_size (by repeat (first|(with_reducible first|exact HB.out|apply below_alloc|apply pw_below_drewN|apply below_drew1|refine below_set ?_ GE259.out|refine below_set ?_ GE279.out)|exact HB.out))))
              have n5_:=Aside0.mk (blk_below (g:=gb259) (o:=.cells #[.int .i64 a1_0,.slice A1_1 l1_1.length c1_1] 25 (0,0)) (by (with_reducible repeat (first|refine blk_drewN ?_ _|refine blk_drew ?_|refine blk_alloc ?_ _));exact BK259.out) hb)
              have n6_:=Aside0.mk (blk_below (g:=gb279) (o:=.cells #[.int .i64 t275,.slice Ao43 t296.length co43] 30 (0,0)) (by (with_reducible repeat (first|refine blk_drewN ?_ _|refine blk_drew ?_|refine blk_alloc ?_ _));exact BK279.out) hb)
              have n7_:=Aside0.mk (below_step (by repeat (first|(with_reducible first|exact HB.out|apply below_alloc|apply pw_below_drewN|apply below_drew1|refine below_set ?_ GE259.out|refine below_set ?_ GE279.out)|exact HB.out)) hb)
              clear HO_6
              clear HO_9
              clear HO_280001
              clear HO303
              clear BK259
              clear BK279
              clear HB
              have HO_6:=n0_
              have HO_9:=n1_
              have HO_280001:=n2_
              have HO303:=n3_
              have HO307:=n4_
              have BK259:=n5_
              have BK279:=n6_
              have HB:=n7_
              clear n0_ n1_ n2_ n3_ n4_ n5_ n6_ n7_
              (try clear hb)
              (try clear hb2)
              (try clear hk)
              (try clear hi)
              (try clear ho0)
              obtain ⟨Ao93,co93,eo93⟩:=Kd.R_slice HO303.out
              (first|subst eo93|(injection eo93 with f1_ f2_ f3_;have f4_:=f1_.symm;have f5_:=f3_.symm;clear f1_ f2_ f3_;subst f4_;subst f5_))
              obtain ⟨Ao94,co94,eo94⟩:=Kd.R_slice HO307.out
              (first|subst eo94|(injection eo94 with f1_ f2_ f3_;have f4_:=f1_.symm;have f5_:=f3_.symm;clear f1_ f2_ f3_;subst f4_;subst f5_))
              refine hK.out _ _ ⟨(blk_cell BK259.out 0).trans rfl,(blk_cell BK259.out 1).trans rfl⟩ (fun hHeld => ?_)
              clear hK K
              refine norm_ (a':=?_) ?_ ?_
              rotate_left
              ·show Act.put _ (some 78) _ = _
               simp only [Act.put,List.setIfInBounds_toArray,List.set_cons_zero,List.set_cons_succ,i64_w,i32_w]
               rfl
              refine one_ (i:=4) (N:=some 79) #[true,true,true,true,true,false] rfl rfl (by kernel_rfl) (by decide) (fun K hK => ?_)
              refine goes_ Tryd.func25 (by kernel_rfl) rfl #[.slice Ao93 t301.length co93,.agg #[.int .i64 t304,.slice Ao94 t305.length co94]] (by rfl) rfl rfl (by (try simp only [List.map_toArray,List.map_cons,List.map_nil]);first|done|rfl|(simp only [List.length_drop,List.length_take];rfl)) ?_
              with_reducible refine (impl_Starts.calls kj26 _ _ t301 t304 _ _ t305 t308 _ ?side1 ?side2 ?side3 ?side4 A67.out).mono ?_
              (case side1 => repeat (first|exact (Kd.R_reads' HO303.out).2.2|(with_reducible first|refine Kd.C_alloc ?_ _|refine Kd.C_drewN ?_ _|refine Kd.C_drew ?_)))
              (case side2 => exact (Kd.R_reads' HO303.out).2.1)
              (case side3 => repeat (first|exact (Kd.R_reads' HO307.out).2.2|(with_reducible first|refine Kd.C_alloc ?_ _|refine Kd.C_drewN ?_ _|refine Kd.C_drew ?_)))
              (case side4 => exact (Kd.R_reads' HO307.out).2.1)
              rintro e w95 ⟨v309,rfl,ho0,hb⟩
              refine ⟨_,rfl,?_⟩
              have n0_:=Aside0.mk (Kd.R_elder' (by (with_reducible repeat (first|apply Kd.R_alloc|apply Kd.R_drewN|apply Kd.R_drew));exact HO_6.out) (Kd.R_base ho0) hb)
              have n1_:=Aside0.mk (Kd.R_elder' (by (with_reducible repeat (first|apply Kd.R_alloc|apply Kd.R_drewN|apply Kd.R_drew));exact HO_9.out) (Kd.R_base ho0) hb)
              have n2_:=Aside0.mk (Kd.R_elder' (by (with_reducible repeat (first|apply Kd.R_alloc|apply Kd.R_drewN|apply Kd.R_drew));exact HO_280001.out) (Kd.R_base ho0) hb)
              have n3_:=Aside0.mk (Kd.R_below (by (with_reducible repeat (first|apply Kd.R_alloc|apply Kd.R_drewN|apply Kd.R_drew));exact HO303.out) hb)
              have n4_:=Aside0.mk (Kd.R_elder' (by (with_reducible repeat (first|apply Kd.R_alloc|apply Kd.R_drewN|apply Kd.R_drew));exact HO307.out) (Kd.R_base ho0) hb)
              have n5_:=Aside0.mk (Kd.R_lower (Kd.R_new' (Kd.R_new' (Kd.R_new' (Kd.R_new' ho0 (Kd.R_lt (by (with_reducible repeat (first|apply Kd.R_alloc|apply Kd.R_drewN|apply Kd.R_drew));exact HO_6.out))) (Kd.R_lt (by (with_reducible repeat (first|apply Kd.R_alloc|apply Kd.R_drewN|apply Kd.R_drew));exact HO_9.out))) (Kd.R_lt (by (with_reducible repeat (first|apply Kd.R_alloc|apply Kd.R_drewN|apply Kd.R_drew));exact HO_280001.out))) (Kd.R_lt (by (with_reducible repeat (first|apply Kd.R_alloc|apply Kd.R_drewN|apply Kd.R_drew));exact HO307.out))) (below_size (by repeat (first|(with_reducible first|exact HB.out|apply below_alloc|apply pw_below_drewN|apply below_drew1|refine below_set ?_ GE259.out|refine below_set ?_ GE279.out)|exact HB.out))))
              have n6_:=Aside0.mk (blk_below (g:=gb259) (o:=.cells #[.int .i64 a1_0,.slice A1_1 l1_1.length c1_1] 25 (0,0)) (by (with_reducible repeat (first|refine blk_drewN ?_ _|refine blk_drew ?_|refine blk_alloc ?_ _));exact BK259.out) hb)
              have n7_:=Aside0.mk (blk_below (g:=gb279) (o:=.cells #[.int .i64 t275,.slice Ao43 t296.length co43] 30 (0,0)) (by (with_reducible repeat (first|refine blk_drewN ?_ _|refine blk_drew ?_|refine blk_alloc ?_ _));exact BK279.out) hb)
              have n8_:=Aside0.mk (below_step (by repeat (first|(with_reducible first|exact HB.out|apply below_alloc|apply pw_below_drewN|apply below_drew1|refine below_set ?_ GE259.out|refine below_set ?_ GE279.out)|exact HB.out)) hb)
              clear HO_6
              clear HO_9
              clear HO_280001
              clear HO303
              clear HO307
              clear BK259
              clear BK279
              clear HB
              have HO_6:=n0_
              have HO_9:=n1_
              have HO_280001:=n2_
              have HO303:=n3_
              have HO307:=n4_
              have HO310:=n5_
              have BK259:=n6_
              have BK279:=n7_
              have HB:=n8_
              clear n0_ n1_ n2_ n3_ n4_ n5_ n6_ n7_ n8_
              (try clear hb)
              (try clear hb2)
              (try clear hk)
              (try clear hi)
              (try clear ho0)
              refine hK.out _ _ ⟨(blk_cell BK259.out 0).trans rfl,(blk_cell BK259.out 1).trans rfl⟩ (fun hHeld => ?_)
              clear hK K
              refine norm_ (a':=?_) ?_ ?_
              rotate_left
              ·show Act.put _ (some 79) _ = _
               simp only [Act.put,List.setIfInBounds_toArray,List.set_cons_zero,List.set_cons_succ,i64_w,i32_w]
               rfl
              refine pure_ (i:=5) (N:=some 13) (v:=?_) (a':=?_) #[true,true,true,true,true,true] rfl rfl (by kernel_rfl) (fun _ _ _ h => h) (Or.inl ⟨by rfl,?_⟩) ?_ ?_
              rotate_left
              ·intro w'
               go_simp
               with_reducible rfl
              rotate_left
              ·simp only [Act.put,List.setIfInBounds_toArray,List.set_cons_zero,List.set_cons_succ,i64_w,i32_w]
               rfl
              refine done_ (by kernel_rfl) ?_
              obtain ⟨Ao96,co96,eo96⟩:=Kd.R_slice HO310.out
              subst eo96
              try go_wp2_with (first|((with_reducible refine gate_callee (f:=26) rfl ?_);refine goesL_ (some 82) rfl rfl Tryd.func26 (by kernel_rfl) rfl #[.slice Ao96 t308.length co96,.slice Ao47 t269.length co47] rfl (by (try simp only [List.map_toArray,List.map_cons,List.map_nil]);first|done|rfl|(simp only [List.length_drop,List.length_take];rfl)) ?_;(with_reducible refine (laws_eqInt64S.calls kj26 _ _ t308 _ _ t269 true _ ?side1 ?side2 ?side3 ?side4 A68.out).mono ?_);(case side1 => repeat (first|exact (Kd.R_reads' HO310.out).2.2|(with_reducible first|refine Kd.C_alloc ?_ _|refine Kd.C_drewN ?_ _|refine Kd.C_drew ?_)));(case side2 => exact (Kd.R_reads' HO310.out).2.1);(case side3 => repeat (first|exact (Kd.R_reads' HO_6.out).2.2|(with_reducible first|refine Kd.C_alloc ?_ _|refine Kd.C_drewN ?_ _|refine Kd.C_drew ?_)));(case side4 => exact (Kd.R_reads' HO_6.out).2.1);rintro e w' ⟨rfl,⟨nd,rfl⟩⟩;refine ⟨_,rfl,?_⟩)|((with_reducible refine gate_callee (f:=30) rfl ?_);refine goesL_ (some 86) rfl rfl Tryd.func30 (by kernel_rfl) rfl #[.slice Ao46 t299.length co46,.int .i64 1] rfl (by (try simp only [List.map_toArray,List.map_cons,List.map_nil]);first|done|(rw [show t299.length = t280.length from (Kd.R_reads' HO_9.out).1.symm] <;> rfl)|rfl|(simp only [List.length_drop,List.length_take];rfl)) ?_;(with_reducible refine (laws_heldInt64S.calls kj26 _ _ t299 1 t312 _ ?side1 ?side2 A70.out).mono ?_);(case side1 => repeat (first|exact (Kd.R_reads' HO_9.out).2.2|(with_reducible first|refine Kd.C_alloc ?_ _|refine Kd.C_drewN ?_ _|refine Kd.C_drew ?_)));(case side2 => rw [show t299.length = t280.length from (Kd.R_reads' HO_9.out).1.symm];exact (Kd.R_reads' HO_9.out).2.1);rintro e w' ⟨rfl,⟨nd,rfl⟩⟩;refine ⟨_,rfl,?_⟩))
              go_ret
              exact ⟨by first|rfl|(simp [errW_none,errW_some] <;> rfl)|(simp [*,errW_none,errW_some] <;> rfl),by repeat (first|(with_reducible first|exact HB.out|apply below_alloc|apply pw_below_drewN|apply below_drew1|refine below_set ?_ GE259.out|refine below_set ?_ GE279.out)|exact HB.out)⟩
           ·replace c69:=Bool.eq_false_iff.mpr c69
            subst c69
            have H1 : (some false) = some r:=by rw [if_neg (show ¬ (false = true) by decide)] at H;exact H
            clear H
            have H:=H1
            clear H1
            obtain rfl:=Option.some.inj H
            try go_wp2_with (first|((with_reducible refine gate_callee (f:=29) rfl ?_);refine goesL_ (some 66) rfl rfl Tryd.func29 (by kernel_rfl) rfl #[.slice Ao46 t280.length co46,.int .i64 1] rfl (by (try simp only [List.map_toArray,List.map_cons,List.map_nil]);first|done|rfl|(simp only [List.length_drop,List.length_take];rfl)) ?_;(with_reducible refine (laws_markInt64S.calls kj26 (fun k_ => some k_ = (.slice Ao46 t280.length co46 : Value).ownBlock) (.slice Ao46 t280.length co46) t280 1 t298 t299 w _ ?side1 ?side2 A60.out).mono ?_);(case side1 => repeat (first|(with_reducible first|exact HB.out|apply below_alloc|apply pw_below_drewN|apply below_drew1|refine below_set ?_ GE259.out|refine below_set ?_ GE279.out)|exact HB.out));(case side2 => exact Kd.R_tight rfl HO_9.out);rintro e w97 ⟨rfl,hy0,hb,hkp⟩;refine ⟨_,rfl,?_⟩;have n0_:=Aside0.mk (Kd.R_mono (ok':=fun k_ => some k_≠(.slice Ao46 t280.length co46 : Value).ownBlock∧some k_≠(.slice Ao43 t296.length co43 : Value).ownBlock) (Kd.R_keptB (HO_6.out) hkp (fun k_ hk_ hs_ => by first|exact hk_.1 hs_|exact hk_.1 hs_|exact hk_.2.1 hs_|exact hk_.2 hs_|exact hk_.2.2.1 hs_|exact hk_.2.2 hs_|exact hk_.2.2.2 hs_)) (fun k_ hk_ => by first|exact ⟨hk_.1.1,hk_.1.2⟩|(simp only [and_assoc] at hk_;exact ⟨hk_.1,hk_.2.1⟩)));have n1_:=Aside0.mk (Kd.R_reok rfl hy0 (fun k_ e_ => HO_9.out.1 k_ e_));have n2_:=Aside0.mk (Kd.R_mono (ok':=fun k_ => some k_≠(.slice Ao47 t269.length co47 : Value).ownBlock∧some k_≠(.slice Ao46 t280.length co46 : Value).ownBlock) (Kd.R_keptB (HO_280001.out) hkp (fun k_ hk_ hs_ => (hk_.2) hs_)) (fun k_ hk_ => by first|exact ⟨hk_.1.1,hk_.1.2⟩|(simp only [and_assoc] at hk_;exact ⟨hk_.1,hk_.2.1⟩)));have n3_:=Aside0.mk (blk_kept (by (with_reducible repeat (first|refine blk_drewN ?_ _|refine blk_drew ?_|refine blk_alloc ?_ _));exact BK259.out) hkp (fun hs_ => (fun e_ => (Kd.R_ne HO_9.out BK259.out (by decide)) e_) hs_));have n4_:=Aside0.mk (blk_kept (by (with_reducible repeat (first|refine blk_drewN ?_ _|refine blk_drew ?_|refine blk_alloc ?_ _));exact BK279.out) hkp (fun hs_ => (fun e_ => (Kd.R_ne HO_9.out BK279.out (by decide)) e_) hs_));have n5_:=Aside0.mk (hb);clear HO_6 HO_9 HO_280001 BK259 BK279 HB;have HO_6:=n0_;have HO_9:=n1_;have HO_280001:=n2_;have BK259:=n3_;have BK279:=n4_;have HB:=n5_;clear n0_ n1_ n2_ n3_ n4_ n5_;(try clear hb);(try clear hkp);(try clear hy0))|((with_reducible refine gate_callee (f:=30) rfl ?_);refine goesL_ (some 69) rfl rfl Tryd.func30 (by kernel_rfl) rfl #[.slice Ao46 t299.length co46,.int .i64 1] rfl (by (try simp only [List.map_toArray,List.map_cons,List.map_nil]);first|done|(rw [show t299.length = t280.length from (Kd.R_reads' HO_9.out).1.symm] <;> rfl)|rfl|(simp only [List.length_drop,List.length_take];rfl)) ?_;(with_reducible refine (laws_heldInt64S.calls kj26 _ _ t299 1 t300 _ ?side1 ?side2 A61.out).mono ?_);(case side1 => repeat (first|exact (Kd.R_reads' HO_9.out).2.2|(with_reducible first|refine Kd.C_alloc ?_ _|refine Kd.C_drewN ?_ _|refine Kd.C_drew ?_)));(case side2 => rw [show t299.length = t280.length from (Kd.R_reads' HO_9.out).1.symm];exact (Kd.R_reads' HO_9.out).2.1);rintro e w' ⟨rfl,⟨nd,rfl⟩⟩;refine ⟨_,rfl,?_⟩))
            (try (rw [drewN_self w97];generalize hq_ : World.drewN w97 _ = w97;have n0_ : Aside0 (Kd.R (Kd.int .i64) 2 w97 w.heap.size (fun k_ => some k_≠(.slice Ao47 t269.length co47 : Value).ownBlock∧some k_≠(.slice Ao46 t280.length co46 : Value).ownBlock) (.slice Ao43 t296.length co43) t296):=⟨by rw [← hq_];exact (by (with_reducible repeat (first|apply Kd.R_alloc|apply Kd.R_drewN|apply Kd.R_drew));exact HO_280001.out)⟩;have n1_ : Aside0 (Kd.R (Kd.int .i64) 2 w97 w.heap.size (fun k_ => some k_≠(.slice Ao43 t296.length co43 : Value).ownBlock∧some k_≠(.slice Ao46 t280.length co46 : Value).ownBlock) (.slice Ao47 t269.length co47) t269):=⟨by rw [← hq_];exact (by (with_reducible repeat (first|apply Kd.R_alloc|apply Kd.R_drewN|apply Kd.R_drew));exact Kd.R_mono HO_6.out (fun _ hk => ⟨hk.2,hk.1⟩))⟩;have n2_ : Aside0 (Kd.R (Kd.int .i64) 2 w97 w.heap.size (fun k_ => some k_≠(.slice Ao43 t296.length co43 : Value).ownBlock∧some k_≠(.slice Ao47 t269.length co47 : Value).ownBlock) (.slice Ao46 t280.length co46) t299):=⟨by rw [← hq_];exact (by (with_reducible repeat (first|apply Kd.R_alloc|apply Kd.R_drewN|apply Kd.R_drew));exact Kd.R_mono HO_9.out (fun _ hk => ⟨hk.2,hk.1⟩))⟩;have n3_ : Aside0 (w97.heap[gb259]? = some (.cells #[.int .i64 a1_0,.slice A1_1 l1_1.length c1_1] 25 (0,0))):=⟨by rw [← hq_];exact (by (with_reducible repeat (first|refine blk_drewN ?_ _|refine blk_drew ?_|refine blk_alloc ?_ _));exact BK259.out)⟩;have n4_ : Aside0 (w97.heap[gb279]? = some (.cells #[.int .i64 t275,.slice Ao43 t296.length co43] 30 (0,0))):=⟨by rw [← hq_];exact (by (with_reducible repeat (first|refine blk_drewN ?_ _|refine blk_drew ?_|refine blk_alloc ?_ _));exact BK279.out)⟩;have n5_ : Aside0 (Below w.heap.size w w97):=⟨by rw [← hq_];exact (by repeat (first|(with_reducible first|exact HB.out|apply below_alloc|apply pw_below_drewN|apply below_drew1|refine below_set ?_ GE259.out|refine below_set ?_ GE279.out)|exact HB.out))⟩;clear HO_280001 HO_6 HO_9 BK259 BK279 HB hq_;have HO_280001:=n0_;have HO_6:=n1_;have HO_9:=n2_;have BK259:=n3_;have BK279:=n4_;have HB:=n5_;clear n0_ n1_ n2_ n3_ n4_ n5_))
            have n0_:=Aside0.mk (Kd.R_drew HO_6.out)
            have n1_:=Aside0.mk (Kd.R_drew HO_9.out)
            have n2_:=Aside0.mk (Kd.R_drew HO_280001.out)
            have n3_:=Aside0.mk (blk_drew BK259.out)
            have n4_:=Aside0.mk (blk_drew BK279.out)
            have n5_:=Aside0.mk (below_drew1 HB.out)
            clear HO_6
            clear HO_9
            clear HO_280001
            clear BK259
            clear BK279
            clear HB
            have HO_6:=n0_
            have HO_9:=n1_
            have HO_280001:=n2_
            have BK259:=n3_
            have BK279:=n4_
            have HB:=n5_
            clear n0_ n1_ n2_ n3_ n4_ n5_
            refine start_ (n:=6) (S:=fun w' => w'.cell? ⟨gb259,0,none⟩ = some (.int .i64 a1_0)∧w'.cell? ⟨gb259,1,none⟩ = some (.slice A1_1 l1_1.length c1_1)) (ds:=[]) #[false,false,false,false,false,false] (by kernel_rfl) rfl rfl ⟨(blk_cell BK259.out 0).trans rfl,(blk_cell BK259.out 1).trans rfl⟩ (fun hHeld => ?_)
            generalize w97.drew = w98 at HO_6 HO_9 HO_280001 BK259 BK279 HB hHeld ⊢
            refine pure_ (i:=0) (N:=some 75) (v:=?_) (a':=?_) #[true,false,false,false,false,false] rfl rfl (by kernel_rfl) (fun _ _ _ h => h) (Or.inl ⟨by rfl,?_⟩) ?_ ?_
            rotate_left
            ·intro w'
             go_simp
             with_reducible rfl
            rotate_left
            ·simp only [Act.put,List.setIfInBounds_toArray,List.set_cons_zero,List.set_cons_succ,i64_w,i32_w]
             rfl
            refine take_ (i:=2) (N:=some 77) (v:=?_) (a':=?_) #[true,false,true,false,false,false] rfl rfl (by kernel_rfl) (fun _ _ _ h => h) (Or.inl ⟨by rfl,?_⟩) hHeld ?_ ?_
            rotate_left
            ·rintro w' ⟨s0,s1⟩
             go_simp
             with_reducible rfl
            rotate_left
            ·simp only [Act.put,List.setIfInBounds_toArray,List.set_cons_zero,List.set_cons_succ,i64_w,i32_w]
             rfl
            refine one_ (i:=1) (N:=some 76) #[true,true,true,false,false,false] rfl rfl (by kernel_rfl) (by decide) (fun K hK => ?_)
            refine goes_ Tryd.func19 (by kernel_rfl) rfl #[.slice A0 l0.length c0] (by rfl) rfl rfl (by (try simp only [List.map_toArray,List.map_cons,List.map_nil]);first|done|rfl|(simp only [List.length_drop,List.length_take];rfl)) ?_
            with_reducible refine (laws_toStringS.calls kj26 _ _ l0 t301 _ ?side1 ?side2 A65.out).mono ?_
            (case side1 => repeat (first|exact (Kd.C_below HR0.out HB.out)|(with_reducible first|refine Kd.C_alloc ?_ _|refine Kd.C_drewN ?_ _|refine Kd.C_drew ?_)))
            (case side2 => exact HC0.out)
            rintro e w99 ⟨v302,rfl,ho0,hb⟩
            refine ⟨_,rfl,?_⟩
            have n0_:=Aside0.mk (Kd.R_below (by (with_reducible repeat (first|apply Kd.R_alloc|apply Kd.R_drewN|apply Kd.R_drew));exact HO_6.out) hb)
            have n1_:=Aside0.mk (Kd.R_below (by (with_reducible repeat (first|apply Kd.R_alloc|apply Kd.R_drewN|apply Kd.R_drew));exact HO_9.out) hb)
            have n2_:=Aside0.mk (Kd.R_below (by (with_reducible repeat (first|apply Kd.R_alloc|apply Kd.R_drewN|apply Kd.R_drew));exact HO_280001.out) hb)
            have n3_:=Aside0.mk (Kd.R_lower ho0 (below_size (by repeat (first|(with_reducible first|exact HB.out|apply below_alloc|apply pw_below_drewN|apply below_drew1|refine below_set ?_ GE259.out|refine below_set ?_ GE279.out)|exact HB.out))))
            have n4_:=Aside0.mk (blk_below (g:=gb259) (o:=.cells #[.int .i64 a1_0,.slice A1_1 l1_1.length c1_1] 25 (0,0)) (by (with_reducible repeat (first|refine blk_drewN ?_ _|refine blk_drew ?_|refine blk_alloc ?_ _));exact BK259.out) hb)
            have n5_:=Aside0.mk (blk_below (g:=gb279) (o:=.cells #[.int .i64 t275,.slice Ao43 t296.length co43] 30 (0,0)) (by (with_reducible repeat (first|refine blk_drewN ?_ _|refine blk_drew ?_|refine blk_alloc ?_ _));exact BK279.out) hb)
            have n6_:=Aside0.mk (below_step (by repeat (first|(with_reducible first|exact HB.out|apply below_alloc|apply pw_below_drewN|apply below_drew1|refine below_set ?_ GE259.out|refine below_set ?_ GE279.out)|exact HB.out)) hb)
            clear HO_6
            clear HO_9
            clear HO_280001
            clear BK259
            clear BK279
            clear HB
            have HO_6:=n0_
            have HO_9:=n1_
            have HO_280001:=n2_
            have HO303:=n3_
            have BK259:=n4_
            have BK279:=n5_
            have HB:=n6_
            clear n0_ n1_ n2_ n3_ n4_ n5_ n6_
            (try clear hb)
            (try clear hb2)
            (try clear hk)
            (try clear hi)
            (try clear ho0)
            refine hK.out _ _ ⟨(blk_cell BK259.out 0).trans rfl,(blk_cell BK259.out 1).trans rfl⟩ (fun hHeld => ?_)
            clear hK K
            refine norm_ (a':=?_) ?_ ?_
            rotate_left
            ·show Act.put _ (some 76) _ = _
             simp only [Act.put,List.setIfInBounds_toArray,List.set_cons_zero,List.set_cons_succ,i64_w,i32_w]
             rfl
            refine one_ (i:=3) (N:=some 78) #[true,true,true,true,false,false] rfl rfl (by kernel_rfl) (by decide) (fun K hK => ?_)
            refine goes_ Tryd.func20 (by kernel_rfl) rfl #[.agg #[.int .i64 a1_0,.slice A1_1 l1_1.length c1_1]] (by rfl) rfl rfl (by (try simp only [List.map_toArray,List.map_cons,List.map_nil]);first|done|rfl|(simp only [List.length_drop,List.length_take];rfl)) ?_
            with_reducible refine (laws_toNursery.calls kj26 a1_0 _ _ l1_1 t304 t305 _ ?side1 ?side2 A66.out).mono ?_
            (case side1 => repeat (first|exact (Kd.C_below HR1_1.out HB.out)|(with_reducible first|refine Kd.C_alloc ?_ _|refine Kd.C_drewN ?_ _|refine Kd.C_drew ?_)))
            (case side2 => exact HC1_1.out)
            rintro e w100 ⟨v306,rfl,ho0,hb⟩
            refine ⟨_,rfl,?_⟩
            have n0_:=Aside0.mk (Kd.R_elder' (by (with_reducible repeat (first|apply Kd.R_alloc|apply Kd.R_drewN|apply Kd.R_drew));exact HO_6.out) (Kd.R_base ho0) hb)
            have n1_:=Aside0.mk (Kd.R_elder' (by (with_reducible repeat (first|apply Kd.R_alloc|apply Kd.R_drewN|apply Kd.R_drew));exact HO_9.out) (Kd.R_base ho0) hb)
            have n2_:=Aside0.mk (Kd.R_elder' (by (with_reducible repeat (first|apply Kd.R_alloc|apply Kd.R_drewN|apply Kd.R_drew));exact HO_280001.out) (Kd.R_base ho0) hb)
            have n3_:=Aside0.mk (Kd.R_below (by (with_reducible repeat (first|apply Kd.R_alloc|apply Kd.R_drewN|apply Kd.R_drew));exact HO303.out) hb)
            have n4_:=Aside0.mk (Kd.R_lower (Kd.R_new' (Kd.R_new' (Kd.R_new' ho0 (Kd.R_lt (by (with_reducible repeat (first|apply Kd.R_alloc|apply Kd.R_drewN|apply Kd.R_drew));exact HO_6.out))) (Kd.R_lt (by (with_reducible repeat (first|apply Kd.R_alloc|apply Kd.R_drewN|apply Kd.R_drew));exact HO_9.out))) (Kd.R_lt (by (with_reducible repeat (first|apply Kd.R_alloc|apply Kd.R_drewN|apply Kd.R_drew));exact HO_280001.out))) (below_size (by repeat (first|(with_reducible first|exact HB.out|apply below_alloc|apply pw_below_drewN|apply below_drew1|refine below_set ?_ GE259.out|refine below_set ?_ GE279.out)|exact HB.out))))
            have n5_:=Aside0.mk (blk_below (g:=gb259) (o:=.cells #[.int .i64 a1_0,.slice A1_1 l1_1.length c1_1] 25 (0,0)) (by (with_reducible repeat (first|refine blk_drewN ?_ _|refine blk_drew ?_|refine blk_alloc ?_ _));exact BK259.out) hb)
            have n6_:=Aside0.mk (blk_below (g:=gb279) (o:=.cells #[.int .i64 t275,.slice Ao43 t296.length co43] 30 (0,0)) (by (with_reducible repeat (first|refine blk_drewN ?_ _|refine blk_drew ?_|refine blk_alloc ?_ _));exact BK279.out) hb)
            have n7_:=Aside0.mk (below_step (by repeat (first|(with_reducible first|exact HB.out|apply below_alloc|apply pw_below_drewN|apply below_drew1|refine below_set ?_ GE259.out|refine below_set ?_ GE279.out)|exact HB.out)) hb)
            clear HO_6
            clear HO_9
            clear HO_280001
            clear HO303
            clear BK259
            clear BK279
            clear HB
            have HO_6:=n0_
            have HO_9:=n1_
            have HO_280001:=n2_
            have HO303:=n3_
            have HO307:=n4_
            have BK259:=n5_
            have BK279:=n6_
            have HB:=n7_
            clear n0_ n1_ n2_ n3_ n4_ n5_ n6_ n7_
            (try clear hb)
            (try clear hb2)
            (try clear hk)
            (try clear hi)
            (try clear ho0)
            obtain ⟨Ao101,co101,eo101⟩:=Kd.R_slice HO303.out
            (first|subst eo101|(injection eo101 with f1_ f2_ f3_;have f4_:=f1_.symm;have f5_:=f3_.symm;clear f1_ f2_ f3_;subst f4_;subst f5_))
            obtain ⟨Ao102,co102,eo102⟩:=Kd.R_slice HO307.out
            (first|subst eo102|(injection eo102 with f1_ f2_ f3_;have f4_:=f1_.symm;have f5_:=f3_.symm;clear f1_ f2_ f3_;subst f4_;subst f5_))
            refine hK.out _ _ ⟨(blk_cell BK259.out 0).trans rfl,(blk_cell BK259.out 1).trans rfl⟩ (fun hHeld => ?_)
            clear hK K
            refine norm_ (a':=?_) ?_ ?_
            rotate_left
            ·show Act.put _ (some 78) _ = _
             simp only [Act.put,List.setIfInBounds_toArray,List.set_cons_zero,List.set_cons_succ,i64_w,i32_w]
             rfl
            refine one_ (i:=4) (N:=some 79) #[true,true,true,true,true,false] rfl rfl (by kernel_rfl) (by decide) (fun K hK => ?_)
            refine goes_ Tryd.func25 (by kernel_rfl) rfl #[.slice Ao101 t301.length co101,.agg #[.int .i64 t304,.slice Ao102 t305.length co102]] (by rfl) rfl rfl (by (try simp only [List.map_toArray,List.map_cons,List.map_nil]);first|done|rfl|(simp only [List.length_drop,List.length_take];rfl)) ?_
            with_reducible refine (impl_Starts.calls kj26 _ _ t301 t304 _ _ t305 t308 _ ?side1 ?side2 ?side3 ?side4 A67.out).mono ?_
            (case side1 => repeat (first|exact (Kd.R_reads' HO303.out).2.2|(with_reducible first|refine Kd.C_alloc ?_ _|refine Kd.C_drewN ?_ _|refine Kd.C_drew ?_)))
            (case side2 => exact (Kd.R_reads' HO303.out).2.1)
            (case side3 => repeat (first|exact (Kd.R_reads' HO307.out).2.2|(with_reducible first|refine Kd.C_alloc ?_ _|refine Kd.C_drewN ?_ _|refine Kd.C_drew ?_)))
            (case side4 => exact (Kd.R_reads' HO307.out).2.1)
            rintro e w103 ⟨v309,rfl,ho0,hb⟩
            refine ⟨_,rfl,?_⟩
            have n0_:=Aside0.mk (Kd.R_elder' (by (with_reducible repeat (first|apply Kd.R_alloc|apply Kd.R_drewN|apply Kd.R_drew));exact HO_6.out) (Kd.R_base ho0) hb)
            have n1_:=Aside0.mk (Kd.R_elder' (by (with_reducible repeat (first|apply Kd.R_alloc|apply Kd.R_drewN|apply Kd.R_drew));exact HO_9.out) (Kd.R_base ho0) hb)
            have n2_:=Aside0.mk (Kd.R_elder' (by (with_reducible repeat (first|apply Kd.R_alloc|apply Kd.R_drewN|apply Kd.R_drew));exact HO_280001.out) (Kd.R_base ho0) hb)
            have n3_:=Aside0.mk (Kd.R_below (by (with_reducible repeat (first|apply Kd.R_alloc|apply Kd.R_drewN|apply Kd.R_drew));exact HO303.out) hb)
            have n4_:=Aside0.mk (Kd.R_elder' (by (with_reducible repeat (first|apply Kd.R_alloc|apply Kd.R_drewN|apply Kd.R_drew));exact HO307.out) (Kd.R_base ho0) hb)
            have n5_:=Aside0.mk (Kd.R_lower (Kd.R_new' (Kd.R_new' (Kd.R_new' (Kd.R_new' ho0 (Kd.R_lt (by (with_reducible repeat (first|apply Kd.R_alloc|apply Kd.R_drewN|apply Kd.R_drew));exact HO_6.out))) (Kd.R_lt (by (with_reducible repeat (first|apply Kd.R_alloc|apply Kd.R_drewN|apply Kd.R_drew));exact HO_9.out))) (Kd.R_lt (by (with_reducible repeat (first|apply Kd.R_alloc|apply Kd.R_drewN|apply Kd.R_drew));exact HO_280001.out))) (Kd.R_lt (by (with_reducible repeat (first|apply Kd.R_alloc|apply Kd.R_drewN|apply Kd.R_drew));exact HO307.out))) (below_size (by repeat (first|(with_reducible first|exact HB.out|apply below_alloc|apply pw_below_drewN|apply below_drew1|refine below_set ?_ GE259.out|refine below_set ?_ GE279.out)|exact HB.out))))
            have n6_:=Aside0.mk (blk_below (g:=gb259) (o:=.cells #[.int .i64 a1_0,.slice A1_1 l1_1.length c1_1] 25 (0,0)) (by (with_reducible repeat (first|refine blk_drewN ?_ _|refine blk_drew ?_|refine blk_alloc ?_ _));exact BK259.out) hb)
            have n7_:=Aside0.mk (blk_below (g:=gb279) (o:=.cells #[.int .i64 t275,.slice Ao43 t296.length co43] 30 (0,0)) (by (with_reducible repeat (first|refine blk_drewN ?_ _|refine blk_drew ?_|refine blk_alloc ?_ _));exact BK279.out) hb)
            have n8_:=Aside0.mk (below_step (by repeat (first|(with_reducible first|exact HB.out|apply below_alloc|apply pw_below_drewN|apply below_drew1|refine below_set ?_ GE259.out|refine below_set ?_ GE279.out)|exact HB.out)) hb)
            clear HO_6
            clear HO_9
            clear HO_280001
            clear HO303
            clear HO307
            clear BK259
            clear BK279
            clear HB
            have HO_6:=n0_
            have HO_9:=n1_
            have HO_280001:=n2_
            have HO303:=n3_
            have HO307:=n4_
            have HO310:=n5_
            have BK259:=n6_
            have BK279:=n7_
            have HB:=n8_
            clear n0_ n1_ n2_ n3_ n4_ n5_ n6_ n7_ n8_
            (try clear hb)
            (try clear hb2)
            (try clear hk)
            (try clear hi)
            (try clear ho0)
            refine hK.out _ _ ⟨(blk_cell BK259.out 0).trans rfl,(blk_cell BK259.out 1).trans rfl⟩ (fun hHeld => ?_)
            clear hK K
            refine norm_ (a':=?_) ?_ ?_
            rotate_left
            ·show Act.put _ (some 79) _ = _
             simp only [Act.put,List.setIfInBounds_toArray,List.set_cons_zero,List.set_cons_succ,i64_w,i32_w]
             rfl
            refine pure_ (i:=5) (N:=some 13) (v:=?_) (a':=?_) #[true,true,true,true,true,true] rfl rfl (by kernel_rfl) (fun _ _ _ h => h) (Or.inl ⟨by rfl,?_⟩) ?_ ?_
            rotate_left
            ·intro w'
             go_simp
             with_reducible rfl
            rotate_left
            ·simp only [Act.put,List.setIfInBounds_toArray,List.set_cons_zero,List.set_cons_succ,i64_w,i32_w]
             rfl
            refine done_ (by kernel_rfl) ?_
            obtain ⟨Ao104,co104,eo104⟩:=Kd.R_slice HO310.out
            subst eo104
            try go_wp2_with (first|((with_reducible refine gate_callee (f:=26) rfl ?_);refine goesL_ (some 82) rfl rfl Tryd.func26 (by kernel_rfl) rfl #[.slice Ao104 t308.length co104,.slice Ao47 t269.length co47] rfl (by (try simp only [List.map_toArray,List.map_cons,List.map_nil]);first|done|rfl|(simp only [List.length_drop,List.length_take];rfl)) ?_;(with_reducible refine (laws_eqInt64S.calls kj26 _ _ t308 _ _ t269 false _ ?side1 ?side2 ?side3 ?side4 A68.out).mono ?_);(case side1 => repeat (first|exact (Kd.R_reads' HO310.out).2.2|(with_reducible first|refine Kd.C_alloc ?_ _|refine Kd.C_drewN ?_ _|refine Kd.C_drew ?_)));(case side2 => exact (Kd.R_reads' HO310.out).2.1);(case side3 => repeat (first|exact (Kd.R_reads' HO_6.out).2.2|(with_reducible first|refine Kd.C_alloc ?_ _|refine Kd.C_drewN ?_ _|refine Kd.C_drew ?_)));(case side4 => exact (Kd.R_reads' HO_6.out).2.1);rintro e w' ⟨rfl,⟨nd,rfl⟩⟩;refine ⟨_,rfl,?_⟩))
            go_ret
            exact ⟨by first|rfl|(simp [errW_none,errW_some] <;> rfl)|(simp [*,errW_none,errW_some] <;> rfl),by repeat (first|(with_reducible first|exact HB.out|apply below_alloc|apply pw_below_drewN|apply below_drew1|refine below_set ?_ GE259.out|refine below_set ?_ GE279.out)|exact HB.out)⟩
          ·rw [if_neg c64] at H
           have c64b0 : (t300 == t298) = false:=beq_eq_false_iff_ne.mpr c64
           have c64b1 : (t300 != t298) = true:=bne_iff_ne.mpr c64
           obtain rfl:=Option.some.inj H
           go_wp2_with (first|((with_reducible refine gate_callee (f:=29) rfl ?_);refine goesL_ (some 66) rfl rfl Tryd.func29 (by kernel_rfl) rfl #[.slice Ao46 t280.length co46,.int .i64 1] rfl (by (try simp only [List.map_toArray,List.map_cons,List.map_nil]);first|done|rfl|(simp only [List.length_drop,List.length_take];rfl)) ?_;(with_reducible refine (laws_markInt64S.calls kj26 (fun k_ => some k_ = (.slice Ao46 t280.length co46 : Value).ownBlock) (.slice Ao46 t280.length co46) t280 1 t298 t299 w _ ?side1 ?side2 A60.out).mono ?_);(case side1 => repeat (first|(with_reducible first|exact HB.out|apply below_alloc|apply pw_below_drewN|apply below_drew1|refine below_set ?_ GE259.out|refine below_set ?_ GE279.out)|exact HB.out));(case side2 => exact Kd.R_tight rfl HO_9.out);rintro e w105 ⟨rfl,hy0,hb,hkp⟩;refine ⟨_,rfl,?_⟩;have n0_:=Aside0.mk (Kd.R_mono (ok':=fun k_ => some k_≠(.slice Ao46 t280.length co46 : Value).ownBlock∧some k_≠(.slice Ao43 t296.length co43 : Value).ownBlock) (Kd.R_keptB (HO_6.out) hkp (fun k_ hk_ hs_ => by first|exact hk_.1 hs_|exact hk_.1 hs_|exact hk_.2.1 hs_|exact hk_.2 hs_|exact hk_.2.2.1 hs_|exact hk_.2.2 hs_|exact hk_.2.2.2 hs_)) (fun k_ hk_ => by first|exact ⟨hk_.1.1,hk_.1.2⟩|(simp only [and_assoc] at hk_;exact ⟨hk_.1,hk_.2.1⟩)));have n1_:=Aside0.mk (Kd.R_reok rfl hy0 (fun k_ e_ => HO_9.out.1 k_ e_));have n2_:=Aside0.mk (Kd.R_mono (ok':=fun k_ => some k_≠(.slice Ao47 t269.length co47 : Value).ownBlock∧some k_≠(.slice Ao46 t280.length co46 : Value).ownBlock) (Kd.R_keptB (HO_280001.out) hkp (fun k_ hk_ hs_ => (hk_.2) hs_)) (fun k_ hk_ => by first|exact ⟨hk_.1.1,hk_.1.2⟩|(simp only [and_assoc] at hk_;exact ⟨hk_.1,hk_.2.1⟩)));have n3_:=Aside0.mk (blk_kept (by (with_reducible repeat (first|refine blk_drewN ?_ _|refine blk_drew ?_|refine blk_alloc ?_ _));exact BK259.out) hkp (fun hs_ => (fun e_ => (Kd.R_ne HO_9.out BK259.out (by decide)) e_) hs_));have n4_:=Aside0.mk (blk_kept (by (with_reducible repeat (first|refine blk_drewN ?_ _|refine blk_drew ?_|refine blk_alloc ?_ _));exact BK279.out) hkp (fun hs_ => (fun e_ => (Kd.R_ne HO_9.out BK279.out (by decide)) e_) hs_));have n5_:=Aside0.mk (hb);clear HO_6 HO_9 HO_280001 BK259 BK279 HB;have HO_6:=n0_;have HO_9:=n1_;have HO_280001:=n2_;have BK259:=n3_;have BK279:=n4_;have HB:=n5_;clear n0_ n1_ n2_ n3_ n4_ n5_;(try clear hb);(try clear hkp);(try clear hy0))|((with_reducible refine gate_callee (f:=30) rfl ?_);refine goesL_ (some 69) rfl rfl Tryd.func30 (by kernel_rfl) rfl #[.slice Ao46 t299.length co46,.int .i64 1] rfl (by (try simp only [List.map_toArray,List.map_cons,List.map_nil]);first|done|(rw [show t299.length = t280.length from (Kd.R_reads' HO_9.out).1.symm] <;> rfl)|rfl|(simp only [List.length_drop,List.length_take];rfl)) ?_;(with_reducible refine (laws_heldInt64S.calls kj26 _ _ t299 1 t300 _ ?side1 ?side2 A61.out).mono ?_);(case side1 => repeat (first|exact (Kd.R_reads' HO_9.out).2.2|(with_reducible first|refine Kd.C_alloc ?_ _|refine Kd.C_drewN ?_ _|refine Kd.C_drew ?_)));(case side2 => rw [show t299.length = t280.length from (Kd.R_reads' HO_9.out).1.symm];exact (Kd.R_reads' HO_9.out).2.1);rintro e w' ⟨rfl,⟨nd,rfl⟩⟩;refine ⟨_,rfl,?_⟩))
           go_ret
           exact ⟨by first|rfl|(simp [errW_none,errW_some] <;> rfl)|(simp [*,errW_none,errW_some] <;> rfl),by repeat (first|(with_reducible first|exact HB.out|apply below_alloc|apply pw_below_drewN|apply below_drew1|refine below_set ?_ GE259.out|refine below_set ?_ GE279.out)|exact HB.out)⟩
     ·replace c24:=Bool.eq_false_iff.mpr c24
      subst c24
      have H1 : (some false) = some r:=by rw [if_neg (show ¬ (false = true) by decide)] at H;exact H
      clear H
      have H:=H1
      clear H1
      obtain rfl:=Option.some.inj H
      go_enter Tryd.func4,Tryd.ntmps4
      try go_wp2_with (first|((with_reducible refine gate_dst (N:=3) rfl ?_);refine box_event ?hg (N:=3) ?hd (cs:=#[.int .i64 a1_0,.slice A1_1 l1_1.length c1_1]) (t:=25) ?hr ?_;(case hd => rfl);(case hg => rfl);(case hr => first|(go_simp;done)|(go_simp;rfl));intro gb259 hg w106 hbox hb;have n0_:=Aside0.mk (below_step (by repeat (first|(with_reducible first|exact HB.out|apply below_alloc|apply pw_below_drewN|apply below_drew1)|exact HB.out)) hb);have n1_:=Aside0.mk (hbox);have n2_:=Aside0.mk ((by rw [hg];exact (below_size (by repeat (first|(with_reducible first|exact HB.out|apply below_alloc|apply pw_below_drewN|apply below_drew1)|exact HB.out))) : w.heap.size ≤ gb259));have n3_:=Aside0.mk ((by rw [hg];exact (below_size (by repeat (first|(with_reducible first|exact HB.out|apply below_alloc|apply pw_below_drewN|apply below_drew1)|exact HB.out))) : w.heap.size ≤ gb259));clear HB;have HB:=n0_;have BK259:=n1_;have GW259:=n2_;have GE259:=n3_;clear n0_ n1_ n2_ n3_;clear hb hbox hg)|((with_reducible refine gate_callee (f:=16) rfl ?_);refine goesL_ (some 16) rfl rfl Tryd.func16 (by kernel_rfl) rfl #[.slice A0 l0.length c0,.int .i64 1048576] rfl (by (try simp only [List.map_toArray,List.map_cons,List.map_nil]);first|done|rfl|(simp only [List.length_drop,List.length_take];rfl)) ?_;(with_reducible refine (laws_szStringS.calls k _ _ l0 1048576 t260 _ ?side1 ?side2 A3.out).mono ?_);(case side1 => repeat (first|exact (Kd.C_below HR0.out HB.out)|(with_reducible first|refine Kd.C_alloc ?_ _|refine Kd.C_drewN ?_ _|refine Kd.C_drew ?_)));(case side2 => exact HC0.out);rintro e w' ⟨rfl,⟨nd,rfl⟩⟩;refine ⟨_,rfl,?_⟩;(try (rw [drewN_self w106];generalize hq_ : World.drewN w106 _ = w106;have n0_ : Aside0 (w106.heap[gb259]? = some (.cells #[.int .i64 a1_0,.slice A1_1 l1_1.length c1_1] 25 (0,0))):=⟨by rw [← hq_];exact (by (with_reducible repeat (first|refine blk_drewN ?_ _|refine blk_drew ?_|refine blk_alloc ?_ _));exact BK259.out)⟩;have n1_ : Aside0 (Below w.heap.size w w106):=⟨by rw [← hq_];exact (by repeat (first|(with_reducible first|exact HB.out|apply below_alloc|apply pw_below_drewN|apply below_drew1|refine below_set ?_ GE259.out)|exact HB.out))⟩;clear BK259 HB hq_;have BK259:=n0_;have HB:=n1_;clear n0_ n1_));have hcz107_0 : w106.cell? ⟨gb259,0,none⟩ = some (.int .i64 a1_0):=(blk_cell BK259.out 0).trans rfl;have hcz107_1 : w106.cell? ⟨gb259,1,none⟩ = some (.slice A1_1 l1_1.length c1_1):=(blk_cell BK259.out 1).trans rfl;have hfz107_0:=blk_frozen BK259.out 0;have hfz107_1:=blk_frozen BK259.out 1)|((with_reducible refine gate_callee (f:=17) rfl ?_);refine goesL_ (some 21) rfl rfl Tryd.func17 (by kernel_rfl) rfl #[.agg #[.int .i64 a1_0,.slice A1_1 l1_1.length c1_1],.int .i64 t260] rfl (by (try simp only [List.map_toArray,List.map_cons,List.map_nil]);first|done|rfl|(simp only [List.length_drop,List.length_take];rfl)) ?_;(with_reducible refine (laws_szNursery.calls a1_0 _ _ l1_1 t260 t261 _ ?side1 ?side2 A6.out).mono ?_);(case side1 => repeat (first|exact (Kd.C_below HR1_1.out HB.out)|(with_reducible first|refine Kd.C_alloc ?_ _|refine Kd.C_drewN ?_ _|refine Kd.C_drew ?_)));(case side2 => exact HC1_1.out);rintro e w108 ⟨rfl,hb⟩;refine ⟨_,rfl,?_⟩;have n0_:=Aside0.mk (blk_below (g:=gb259) (o:=.cells #[.int .i64 a1_0,.slice A1_1 l1_1.length c1_1] 25 (0,0)) (by (with_reducible repeat (first|refine blk_drewN ?_ _|refine blk_drew ?_|refine blk_alloc ?_ _));exact BK259.out) hb);have n1_:=Aside0.mk (below_step (by repeat (first|(with_reducible first|exact HB.out|apply below_alloc|apply pw_below_drewN|apply below_drew1|refine below_set ?_ GE259.out)|exact HB.out)) hb);clear BK259 HB;have BK259:=n0_;have HB:=n1_;clear n0_ n1_;(try clear hb);(try clear hb2);(try clear hk);(try clear hi)))
      have n0_:=Aside0.mk (blk_drew BK259.out)
      have n1_:=Aside0.mk (below_drew1 HB.out)
      clear BK259
      clear HB
      have BK259:=n0_
      have HB:=n1_
      clear n0_ n1_
      refine start_ (n:=6) (S:=fun w' => w'.cell? ⟨gb259,0,none⟩ = some (.int .i64 a1_0)∧w'.cell? ⟨gb259,1,none⟩ = some (.slice A1_1 l1_1.length c1_1)) (ds:=[]) #[false,false,false,false,false,false] (by kernel_rfl) rfl rfl ⟨(blk_cell BK259.out 0).trans rfl,(blk_cell BK259.out 1).trans rfl⟩ (fun hHeld => ?_)
      generalize w108.drew = w109 at BK259 HB hHeld ⊢
      refine pure_ (i:=0) (N:=some 24) (v:=?_) (a':=?_) #[true,false,false,false,false,false] rfl rfl (by kernel_rfl) (fun _ _ _ h => h) (Or.inl ⟨by rfl,?_⟩) ?_ ?_
      rotate_left
      ·intro w'
       go_simp
       with_reducible rfl
      rotate_left
      ·simp only [Act.put,List.setIfInBounds_toArray,List.set_cons_zero,List.set_cons_succ,i64_w,i32_w]
       rfl
      refine take_ (i:=2) (N:=some 26) (v:=?_) (a':=?_) #[true,false,true,false,false,false] rfl rfl (by kernel_rfl) (fun _ _ _ h => h) (Or.inl ⟨by rfl,?_⟩) hHeld ?_ ?_
      rotate_left
      ·rintro w' ⟨s0,s1⟩
       go_simp
       with_reducible rfl
      rotate_left
      ·simp only [Act.put,List.setIfInBounds_toArray,List.set_cons_zero,List.set_cons_succ,i64_w,i32_w]
       rfl
      refine one_ (i:=1) (N:=some 25) #[true,true,true,false,false,false] rfl rfl (by kernel_rfl) (by decide) (fun K hK => ?_)
      refine goes_ Tryd.func19 (by kernel_rfl) rfl #[.slice A0 l0.length c0] (by rfl) rfl rfl (by (try simp only [List.map_toArray,List.map_cons,List.map_nil]);first|done|rfl|(simp only [List.length_drop,List.length_take];rfl)) ?_
      with_reducible refine (laws_toStringS.calls k _ _ l0 t262 _ ?side1 ?side2 A11.out).mono ?_
      (case side1 => repeat (first|exact (Kd.C_below HR0.out HB.out)|(with_reducible first|refine Kd.C_alloc ?_ _|refine Kd.C_drewN ?_ _|refine Kd.C_drew ?_)))
      (case side2 => exact HC0.out)
      rintro e w110 ⟨v263,rfl,ho0,hb⟩
      refine ⟨_,rfl,?_⟩
      have n0_:=Aside0.mk (Kd.R_lower ho0 (below_size (by repeat (first|(with_reducible first|exact HB.out|apply below_alloc|apply pw_below_drewN|apply below_drew1|refine below_set ?_ GE259.out)|exact HB.out))))
      have n1_:=Aside0.mk (blk_below (g:=gb259) (o:=.cells #[.int .i64 a1_0,.slice A1_1 l1_1.length c1_1] 25 (0,0)) (by (with_reducible repeat (first|refine blk_drewN ?_ _|refine blk_drew ?_|refine blk_alloc ?_ _));exact BK259.out) hb)
      have n2_:=Aside0.mk (below_step (by repeat (first|(with_reducible first|exact HB.out|apply below_alloc|apply pw_below_drewN|apply below_drew1|refine below_set ?_ GE259.out)|exact HB.out)) hb)
      clear BK259
      clear HB
      have HO264:=n0_
      have BK259:=n1_
      have HB:=n2_
      clear n0_ n1_ n2_
      (try clear hb)
      (try clear hb2)
      (try clear hk)
      (try clear hi)
      (try clear ho0)
      refine hK.out _ _ ⟨(blk_cell BK259.out 0).trans rfl,(blk_cell BK259.out 1).trans rfl⟩ (fun hHeld => ?_)
      clear hK K
      refine norm_ (a':=?_) ?_ ?_
      rotate_left
      ·show Act.put _ (some 25) _ = _
       simp only [Act.put,List.setIfInBounds_toArray,List.set_cons_zero,List.set_cons_succ,i64_w,i32_w]
       rfl
      refine one_ (i:=3) (N:=some 27) #[true,true,true,true,false,false] rfl rfl (by kernel_rfl) (by decide) (fun K hK => ?_)
      refine goes_ Tryd.func20 (by kernel_rfl) rfl #[.agg #[.int .i64 a1_0,.slice A1_1 l1_1.length c1_1]] (by rfl) rfl rfl (by (try simp only [List.map_toArray,List.map_cons,List.map_nil]);first|done|rfl|(simp only [List.length_drop,List.length_take];rfl)) ?_
      with_reducible refine (laws_toNursery.calls k a1_0 _ _ l1_1 t265 t266 _ ?side1 ?side2 A12.out).mono ?_
      (case side1 => repeat (first|exact (Kd.C_below HR1_1.out HB.out)|(with_reducible first|refine Kd.C_alloc ?_ _|refine Kd.C_drewN ?_ _|refine Kd.C_drew ?_)))
      (case side2 => exact HC1_1.out)
      rintro e w111 ⟨v267,rfl,ho0,hb⟩
      refine ⟨_,rfl,?_⟩
      have n0_:=Aside0.mk (Kd.R_below (by (with_reducible repeat (first|apply Kd.R_alloc|apply Kd.R_drewN|apply Kd.R_drew));exact HO264.out) hb)
      have n1_:=Aside0.mk (Kd.R_lower ho0 (below_size (by repeat (first|(with_reducible first|exact HB.out|apply below_alloc|apply pw_below_drewN|apply below_drew1|refine below_set ?_ GE259.out)|exact HB.out))))
      have n2_:=Aside0.mk (blk_below (g:=gb259) (o:=.cells #[.int .i64 a1_0,.slice A1_1 l1_1.length c1_1] 25 (0,0)) (by (with_reducible repeat (first|refine blk_drewN ?_ _|refine blk_drew ?_|refine blk_alloc ?_ _));exact BK259.out) hb)
      have n3_:=Aside0.mk (below_step (by repeat (first|(with_reducible first|exact HB.out|apply below_alloc|apply pw_below_drewN|apply below_drew1|refine below_set ?_ GE259.out)|exact HB.out)) hb)
      clear HO264
      clear BK259
      clear HB
      have HO264:=n0_
      have HO268:=n1_
      have BK259:=n2_
      have HB:=n3_
      clear n0_ n1_ n2_ n3_
      (try clear hb)
      (try clear hb2)
      (try clear hk)
      (try clear hi)
      (try clear ho0)
      obtain ⟨Ao112,co112,eo112⟩:=Kd.R_slice HO264.out
      (first|subst eo112|(injection eo112 with f1_ f2_ f3_;have f4_:=f1_.symm;have f5_:=f3_.symm;clear f1_ f2_ f3_;subst f4_;subst f5_))
      obtain ⟨Ao113,co113,eo113⟩:=Kd.R_slice HO268.out
      (first|subst eo113|(injection eo113 with f1_ f2_ f3_;have f4_:=f1_.symm;have f5_:=f3_.symm;clear f1_ f2_ f3_;subst f4_;subst f5_))
      refine hK.out _ _ ⟨(blk_cell BK259.out 0).trans rfl,(blk_cell BK259.out 1).trans rfl⟩ (fun hHeld => ?_)
      clear hK K
      refine norm_ (a':=?_) ?_ ?_
      rotate_left
      ·show Act.put _ (some 27) _ = _
       simp only [Act.put,List.setIfInBounds_toArray,List.set_cons_zero,List.set_cons_succ,i64_w,i32_w]
       rfl
      refine one_ (i:=4) (N:=some 28) #[true,true,true,true,true,false] rfl rfl (by kernel_rfl) (by decide) (fun K hK => ?_)
      refine goes_ Tryd.func24 (by kernel_rfl) rfl #[.slice Ao112 t262.length co112,.agg #[.int .i64 t265,.slice Ao113 t266.length co113]] (by rfl) rfl rfl (by (try simp only [List.map_toArray,List.map_cons,List.map_nil]);first|done|rfl|(simp only [List.length_drop,List.length_take];rfl)) ?_
      with_reducible refine (spec_Starts.calls k _ _ t262 t265 _ _ t266 t269 _ ?side1 ?side2 ?side3 ?side4 A13.out).mono ?_
      (case side1 => repeat (first|exact (Kd.R_reads' HO264.out).2.2|(with_reducible first|refine Kd.C_alloc ?_ _|refine Kd.C_drewN ?_ _|refine Kd.C_drew ?_)))
      (case side2 => exact (Kd.R_reads' HO264.out).2.1)
      (case side3 => repeat (first|exact (Kd.R_reads' HO268.out).2.2|(with_reducible first|refine Kd.C_alloc ?_ _|refine Kd.C_drewN ?_ _|refine Kd.C_drew ?_)))
      (case side4 => exact (Kd.R_reads' HO268.out).2.1)
      rintro e w114 ⟨v270,rfl,ho0,hb⟩
      refine ⟨_,rfl,?_⟩
      have n0_:=Aside0.mk (Kd.R_below (by (with_reducible repeat (first|apply Kd.R_alloc|apply Kd.R_drewN|apply Kd.R_drew));exact HO264.out) hb)
      have n1_:=Aside0.mk (Kd.R_elder' (by (with_reducible repeat (first|apply Kd.R_alloc|apply Kd.R_drewN|apply Kd.R_drew));exact HO268.out) (Kd.R_base ho0) hb)
      have n2_:=Aside0.mk (Kd.R_lower (Kd.R_new' ho0 (Kd.R_lt (by (with_reducible repeat (first|apply Kd.R_alloc|apply Kd.R_drewN|apply Kd.R_drew));exact HO268.out))) (below_size (by repeat (first|(with_reducible first|exact HB.out|apply below_alloc|apply pw_below_drewN|apply below_drew1|refine below_set ?_ GE259.out)|exact HB.out))))
      have n3_:=Aside0.mk (blk_below (g:=gb259) (o:=.cells #[.int .i64 a1_0,.slice A1_1 l1_1.length c1_1] 25 (0,0)) (by (with_reducible repeat (first|refine blk_drewN ?_ _|refine blk_drew ?_|refine blk_alloc ?_ _));exact BK259.out) hb)
      have n4_:=Aside0.mk (below_step (by repeat (first|(with_reducible first|exact HB.out|apply below_alloc|apply pw_below_drewN|apply below_drew1|refine below_set ?_ GE259.out)|exact HB.out)) hb)
      clear HO264
      clear HO268
      clear BK259
      clear HB
      have HO264:=n0_
      have HO268:=n1_
      have HO271:=n2_
      have BK259:=n3_
      have HB:=n4_
      clear n0_ n1_ n2_ n3_ n4_
      (try clear hb)
      (try clear hb2)
      (try clear hk)
      (try clear hi)
      (try clear ho0)
      refine hK.out _ _ ⟨(blk_cell BK259.out 0).trans rfl,(blk_cell BK259.out 1).trans rfl⟩ (fun hHeld => ?_)
      clear hK K
      refine norm_ (a':=?_) ?_ ?_
      rotate_left
      ·show Act.put _ (some 28) _ = _
       simp only [Act.put,List.setIfInBounds_toArray,List.set_cons_zero,List.set_cons_succ,i64_w,i32_w]
       rfl
      refine pure_ (i:=5) (N:=some 6) (v:=?_) (a':=?_) #[true,true,true,true,true,true] rfl rfl (by kernel_rfl) (fun _ _ _ h => h) (Or.inl ⟨by rfl,?_⟩) ?_ ?_
      rotate_left
      ·intro w'
       go_simp
       with_reducible rfl
      rotate_left
      ·simp only [Act.put,List.setIfInBounds_toArray,List.set_cons_zero,List.set_cons_succ,i64_w,i32_w]
       rfl
      refine done_ (by kernel_rfl) ?_
      try go_wp2_with (first|((with_reducible refine gate_callee (f:=19) rfl ?_);refine goesL_ (some 30) rfl rfl Tryd.func19 (by kernel_rfl) rfl #[.slice A0 l0.length c0] rfl (by (try simp only [List.map_toArray,List.map_cons,List.map_nil]);first|done|rfl|(simp only [List.length_drop,List.length_take];rfl)) ?_;(with_reducible refine (laws_toStringS.calls k _ _ l0 t272 _ ?side1 ?side2 A14.out).mono ?_);(case side1 => repeat (first|exact (Kd.C_below HR0.out HB.out)|(with_reducible first|refine Kd.C_alloc ?_ _|refine Kd.C_drewN ?_ _|refine Kd.C_drew ?_)));(case side2 => exact HC0.out);rintro e w115 ⟨v273,rfl,ho0,hb⟩;refine ⟨_,rfl,?_⟩;have n0_:=Aside0.mk (Kd.R_elder' (by (with_reducible repeat (first|apply Kd.R_alloc|apply Kd.R_drewN|apply Kd.R_drew));exact HO264.out) (Kd.R_base ho0) hb);have n1_:=Aside0.mk (Kd.R_below (by (with_reducible repeat (first|apply Kd.R_alloc|apply Kd.R_drewN|apply Kd.R_drew));exact HO268.out) hb);have n2_:=Aside0.mk (Kd.R_below (by (with_reducible repeat (first|apply Kd.R_alloc|apply Kd.R_drewN|apply Kd.R_drew));exact HO271.out) hb);have n3_:=Aside0.mk (Kd.R_lower (Kd.R_new' ho0 (Kd.R_lt (by (with_reducible repeat (first|apply Kd.R_alloc|apply Kd.R_drewN|apply Kd.R_drew));exact HO264.out))) (below_size (by repeat (first|(with_reducible first|exact HB.out|apply below_alloc|apply pw_below_drewN|apply below_drew1|refine below_set ?_ GE259.out)|exact HB.out))));have n4_:=Aside0.mk (blk_below (g:=gb259) (o:=.cells #[.int .i64 a1_0,.slice A1_1 l1_1.length c1_1] 25 (0,0)) (by (with_reducible repeat (first|refine blk_drewN ?_ _|refine blk_drew ?_|refine blk_alloc ?_ _));exact BK259.out) hb);have n5_:=Aside0.mk (below_step (by repeat (first|(with_reducible first|exact HB.out|apply below_alloc|apply pw_below_drewN|apply below_drew1|refine below_set ?_ GE259.out)|exact HB.out)) hb);clear HO264 HO268 HO271 BK259 HB;have HO264:=n0_;have HO268:=n1_;have HO271:=n2_;have HO274:=n3_;have BK259:=n4_;have HB:=n5_;clear n0_ n1_ n2_ n3_ n4_ n5_;(try clear hb);(try clear hb2);(try clear hk);(try clear hi);(try clear ho0);have hcz116_0 : w115.cell? ⟨gb259,0,none⟩ = some (.int .i64 a1_0):=(blk_cell BK259.out 0).trans rfl;have hcz116_1 : w115.cell? ⟨gb259,1,none⟩ = some (.slice A1_1 l1_1.length c1_1):=(blk_cell BK259.out 1).trans rfl;have hfz116_0:=blk_frozen BK259.out 0;have hfz116_1:=blk_frozen BK259.out 1)|((with_reducible refine gate_callee (f:=20) rfl ?_);refine goesL_ (some 32) rfl rfl Tryd.func20 (by kernel_rfl) rfl #[.agg #[.int .i64 a1_0,.slice A1_1 l1_1.length c1_1]] rfl (by (try simp only [List.map_toArray,List.map_cons,List.map_nil]);first|done|rfl|(simp only [List.length_drop,List.length_take];rfl)) ?_;(with_reducible refine (laws_toNursery.calls k a1_0 _ _ l1_1 t275 t276 _ ?side1 ?side2 A15.out).mono ?_);(case side1 => repeat (first|exact (Kd.C_below HR1_1.out HB.out)|(with_reducible first|refine Kd.C_alloc ?_ _|refine Kd.C_drewN ?_ _|refine Kd.C_drew ?_)));(case side2 => exact HC1_1.out);rintro e w117 ⟨v277,rfl,ho0,hb⟩;refine ⟨_,rfl,?_⟩;have n0_:=Aside0.mk (Kd.R_below (by (with_reducible repeat (first|apply Kd.R_alloc|apply Kd.R_drewN|apply Kd.R_drew));exact HO264.out) hb);have n1_:=Aside0.mk (Kd.R_elder' (by (with_reducible repeat (first|apply Kd.R_alloc|apply Kd.R_drewN|apply Kd.R_drew));exact HO268.out) (Kd.R_base ho0) hb);have n2_:=Aside0.mk (Kd.R_elder' (by (with_reducible repeat (first|apply Kd.R_alloc|apply Kd.R_drewN|apply Kd.R_drew));exact HO271.out) (Kd.R_base ho0) hb);have n3_:=Aside0.mk (Kd.R_below (by (with_reducible repeat (first|apply Kd.R_alloc|apply Kd.R_drewN|apply Kd.R_drew));exact HO274.out) hb);have n4_:=Aside0.mk (Kd.R_lower (Kd.R_new' (Kd.R_new' ho0 (Kd.R_lt (by (with_reducible repeat (first|apply Kd.R_alloc|apply Kd.R_drewN|apply Kd.R_drew));exact HO268.out))) (Kd.R_lt (by (with_reducible repeat (first|apply Kd.R_alloc|apply Kd.R_drewN|apply Kd.R_drew));exact HO271.out))) (below_size (by repeat (first|(with_reducible first|exact HB.out|apply below_alloc|apply pw_below_drewN|apply below_drew1|refine below_set ?_ GE259.out)|exact HB.out))));have n5_:=Aside0.mk (blk_below (g:=gb259) (o:=.cells #[.int .i64 a1_0,.slice A1_1 l1_1.length c1_1] 25 (0,0)) (by (with_reducible repeat (first|refine blk_drewN ?_ _|refine blk_drew ?_|refine blk_alloc ?_ _));exact BK259.out) hb);have n6_:=Aside0.mk (below_step (by repeat (first|(with_reducible first|exact HB.out|apply below_alloc|apply pw_below_drewN|apply below_drew1|refine below_set ?_ GE259.out)|exact HB.out)) hb);clear HO264 HO268 HO271 HO274 BK259 HB;have HO264:=n0_;have HO268:=n1_;have HO271:=n2_;have HO274:=n3_;have HO278:=n4_;have BK259:=n5_;have HB:=n6_;clear n0_ n1_ n2_ n3_ n4_ n5_ n6_;(try clear hb);(try clear hb2);(try clear hk);(try clear hi);(try clear ho0))|((with_reducible refine gate_dst (N:=8) rfl ?_);refine box_event ?hg (N:=8) ?hd (cs:=#[.int .i64 0,.slice none 0 0]) (t:=30) ?hr ?_;(case hd => rfl);(case hg => rfl);(case hr => first|(go_simp;done)|(go_simp;rfl));intro gb279 hg w118 hbox hb;have n0_:=Aside0.mk (Kd.R_below (by (with_reducible repeat (first|apply Kd.R_alloc|apply Kd.R_drewN|apply Kd.R_drew));exact HO264.out) hb);have n1_:=Aside0.mk (Kd.R_below (by (with_reducible repeat (first|apply Kd.R_alloc|apply Kd.R_drewN|apply Kd.R_drew));exact HO268.out) hb);have n2_:=Aside0.mk (Kd.R_below (by (with_reducible repeat (first|apply Kd.R_alloc|apply Kd.R_drewN|apply Kd.R_drew));exact HO271.out) hb);have n3_:=Aside0.mk (Kd.R_below (by (with_reducible repeat (first|apply Kd.R_alloc|apply Kd.R_drewN|apply Kd.R_drew));exact HO274.out) hb);have n4_:=Aside0.mk (Kd.R_below (by (with_reducible repeat (first|apply Kd.R_alloc|apply Kd.R_drewN|apply Kd.R_drew));exact HO278.out) hb);have n5_:=Aside0.mk (blk_below (g:=gb259) (o:=.cells #[.int .i64 a1_0,.slice A1_1 l1_1.length c1_1] 25 (0,0)) (by (with_reducible repeat (first|refine blk_drewN ?_ _|refine blk_drew ?_|refine blk_alloc ?_ _));exact BK259.out) hb);have n6_:=Aside0.mk (below_step (by repeat (first|(with_reducible first|exact HB.out|apply below_alloc|apply pw_below_drewN|apply below_drew1|refine below_set ?_ GE259.out)|exact HB.out)) hb);have n7_:=Aside0.mk (hbox);have n8_:=Aside0.mk ((by rw [hg];exact (below_size (by repeat (first|(with_reducible first|exact HB.out|apply below_alloc|apply pw_below_drewN|apply below_drew1|refine below_set ?_ GE259.out)|exact HB.out))) : w.heap.size ≤ gb279));have n9_:=Aside0.mk ((by rw [hg];exact (below_size (by repeat (first|(with_reducible first|exact HB.out|apply below_alloc|apply pw_below_drewN|apply below_drew1|refine below_set ?_ GE259.out)|exact HB.out))) : w.heap.size ≤ gb279));have n10_:=Aside0.mk ((by rw [hg];exact Nat.ne_of_lt (blk_lt (g:=gb259) (o:=.cells #[.int .i64 a1_0,.slice A1_1 l1_1.length c1_1] 25 (0,0)) (by (with_reducible repeat (first|refine blk_drewN ?_ _|refine blk_drew ?_|refine blk_alloc ?_ _));exact BK259.out)) : gb259≠gb279));have n11_:=Aside0.mk ((by rw [hg];exact Nat.ne_of_gt (blk_lt (g:=gb259) (o:=.cells #[.int .i64 a1_0,.slice A1_1 l1_1.length c1_1] 25 (0,0)) (by (with_reducible repeat (first|refine blk_drewN ?_ _|refine blk_drew ?_|refine blk_alloc ?_ _));exact BK259.out)) : gb279≠gb259));clear HO264 HO268 HO271 HO274 HO278 BK259 HB;have HO264:=n0_;have HO268:=n1_;have HO271:=n2_;have HO274:=n3_;have HO278:=n4_;have BK259:=n5_;have HB:=n6_;have BK279:=n7_;have GW279:=n8_;have GE279:=n9_;have NB259_279:=n10_;have NB279_259:=n11_;clear n0_ n1_ n2_ n3_ n4_ n5_ n6_ n7_ n8_ n9_ n10_ n11_;clear hb hbox hg;have hnb119:=NB279_259.out;have hnc119:=NB259_279.out;have hcz120_0 : w118.cell? ⟨gb279,0,none⟩ = some (.int .i64 0):=(blk_cell BK279.out 0).trans rfl;have hcz120_1 : w118.cell? ⟨gb279,1,none⟩ = some (.slice none 0 0):=(blk_cell BK279.out 1).trans rfl;have hfz120_0:=blk_frozen BK279.out 0;have hfz120_1:=blk_frozen BK279.out 1;obtain ⟨Ao121,co121,eo121⟩:=Kd.R_slice HO278.out;subst eo121;obtain ⟨Ao122,co122,eo122⟩:=Kd.R_slice HO274.out;subst eo122)|((with_reducible refine gate_callee (f:=25) rfl ?_);refine goesL_ (some 35) rfl rfl Tryd.func25 (by kernel_rfl) rfl #[.slice Ao122 t272.length co122,.agg #[.int .i64 t275,.slice Ao121 t276.length co121]] rfl (by (try simp only [List.map_toArray,List.map_cons,List.map_nil]);first|done|rfl|(simp only [List.length_drop,List.length_take];rfl)) ?_;(with_reducible refine (impl_Starts.calls k _ _ t272 t275 _ _ t276 t280 _ ?side1 ?side2 ?side3 ?side4 A16.out).mono ?_);(case side1 => refine (Kd.R_reads' (e:=9) (base:=w.heap.size) (ok:=fun k_ => (True∧some k_≠(.slice Ao112 t262.length co112 : Value).ownBlock)) (n:=t272.length) (c:=co122) ?_).2.2;exact (by (with_reducible repeat (first|apply Kd.R_alloc|apply Kd.R_drewN|apply Kd.R_drew));exact (Kd.R_mono (Kd.R_far (p:=⟨gb279,1,none⟩) (Kd.R_far (p:=⟨gb279,0,none⟩) (Kd.R_types HO274.out BK279.out (by decide)) (fun _ hk => hk.2) (.int .i64 t275)) (fun _ hk => hk.2) (.slice Ao121 t276.length co121)) (fun _ h_ => h_.1))));(case side2 => exact (Kd.R_reads' HO274.out).2.1);(case side3 => refine (Kd.R_reads' (e:=2) (base:=w.heap.size) (ok:=fun k_ => ((True∧some k_≠(.slice Ao113 t266.length co113 : Value).ownBlock)∧some k_≠(v270 : Value).ownBlock)) (n:=t276.length) (c:=co121) ?_).2.2;exact (by (with_reducible repeat (first|apply Kd.R_alloc|apply Kd.R_drewN|apply Kd.R_drew));exact (Kd.R_mono (Kd.R_far (p:=⟨gb279,1,none⟩) (Kd.R_far (p:=⟨gb279,0,none⟩) (Kd.R_types HO278.out BK279.out (by decide)) (fun _ hk => hk.2) (.int .i64 t275)) (fun _ hk => hk.2) (.slice Ao121 t276.length co121)) (fun _ h_ => h_.1))));(case side4 => exact (Kd.R_reads' HO278.out).2.1);rintro e w123 ⟨v281,rfl,ho0,hb⟩;refine ⟨_,rfl,?_⟩;have n0_:=Aside0.mk (Kd.R_below (by (with_reducible repeat (first|apply Kd.R_alloc|apply Kd.R_drewN|apply Kd.R_drew));exact (Kd.R_mono (Kd.R_far (p:=⟨gb279,1,none⟩) (Kd.R_far (p:=⟨gb279,0,none⟩) (Kd.R_types HO264.out BK279.out (by decide)) (fun _ hk => hk.2) (.int .i64 t275)) (fun _ hk => hk.2) (.slice Ao121 t276.length co121)) (fun _ h_ => h_.1))) hb);have n1_:=Aside0.mk (Kd.R_elder' (by (with_reducible repeat (first|apply Kd.R_alloc|apply Kd.R_drewN|apply Kd.R_drew));exact (Kd.R_mono (Kd.R_far (p:=⟨gb279,1,none⟩) (Kd.R_far (p:=⟨gb279,0,none⟩) (Kd.R_types HO268.out BK279.out (by decide)) (fun _ hk => hk.2) (.int .i64 t275)) (fun _ hk => hk.2) (.slice Ao121 t276.length co121)) (fun _ h_ => h_.1))) (Kd.R_base ho0) hb);have n2_:=Aside0.mk (Kd.R_elder' (by (with_reducible repeat (first|apply Kd.R_alloc|apply Kd.R_drewN|apply Kd.R_drew));exact (Kd.R_mono (Kd.R_far (p:=⟨gb279,1,none⟩) (Kd.R_far (p:=⟨gb279,0,none⟩) (Kd.R_types HO271.out BK279.out (by decide)) (fun _ hk => hk.2) (.int .i64 t275)) (fun _ hk => hk.2) (.slice Ao121 t276.length co121)) (fun _ h_ => h_.1))) (Kd.R_base ho0) hb);have n3_:=Aside0.mk (Kd.R_below (by (with_reducible repeat (first|apply Kd.R_alloc|apply Kd.R_drewN|apply Kd.R_drew));exact (Kd.R_mono (Kd.R_far (p:=⟨gb279,1,none⟩) (Kd.R_far (p:=⟨gb279,0,none⟩) (Kd.R_types HO274.out BK279.out (by decide)) (fun _ hk => hk.2) (.int .i64 t275)) (fun _ hk => hk.2) (.slice Ao121 t276.length co121)) (fun _ h_ => h_.1))) hb);have n4_:=Aside0.mk (Kd.R_elder' (by (with_reducible repeat (first|apply Kd.R_alloc|apply Kd.R_drewN|apply Kd.R_drew));exact (Kd.R_mono (Kd.R_far (p:=⟨gb279,1,none⟩) (Kd.R_far (p:=⟨gb279,0,none⟩) (Kd.R_types HO278.out BK279.out (by decide)) (fun _ hk => hk.2) (.int .i64 t275)) (fun _ hk => hk.2) (.slice Ao121 t276.length co121)) (fun _ h_ => h_.1))) (Kd.R_base ho0) hb);have n5_:=Aside0.mk (Kd.R_lower (Kd.R_new' (Kd.R_new' (Kd.R_new' ho0 (Kd.R_lt (by (with_reducible repeat (first|apply Kd.R_alloc|apply Kd.R_drewN|apply Kd.R_drew));exact (Kd.R_mono (Kd.R_far (p:=⟨gb279,1,none⟩) (Kd.R_far (p:=⟨gb279,0,none⟩) (Kd.R_types HO268.out BK279.out (by decide)) (fun _ hk => hk.2) (.int .i64 t275)) (fun _ hk => hk.2) (.slice Ao121 t276.length co121)) (fun _ h_ => h_.1))))) (Kd.R_lt (by (with_reducible repeat (first|apply Kd.R_alloc|apply Kd.R_drewN|apply Kd.R_drew));exact (Kd.R_mono (Kd.R_far (p:=⟨gb279,1,none⟩) (Kd.R_far (p:=⟨gb279,0,none⟩) (Kd.R_types HO271.out BK279.out (by decide)) (fun _ hk => hk.2) (.int .i64 t275)) (fun _ hk => hk.2) (.slice Ao121 t276.length co121)) (fun _ h_ => h_.1))))) (Kd.R_lt (by (with_reducible repeat (first|apply Kd.R_alloc|apply Kd.R_drewN|apply Kd.R_drew));exact (Kd.R_mono (Kd.R_far (p:=⟨gb279,1,none⟩) (Kd.R_far (p:=⟨gb279,0,none⟩) (Kd.R_types HO278.out BK279.out (by decide)) (fun _ hk => hk.2) (.int .i64 t275)) (fun _ hk => hk.2) (.slice Ao121 t276.length co121)) (fun _ h_ => h_.1))))) (below_size (by repeat (first|(with_reducible first|exact HB.out|apply below_alloc|apply pw_below_drewN|apply below_drew1|refine below_set ?_ GE259.out|refine below_set ?_ GE279.out)|exact HB.out))));have n6_:=Aside0.mk (blk_below (g:=gb259) (o:=.cells #[.int .i64 a1_0,.slice A1_1 l1_1.length c1_1] 25 (0,0)) (by (with_reducible repeat (first|refine blk_drewN ?_ _|refine blk_drew ?_|refine blk_alloc ?_ _));refine blk_far ?_ NB259_279.out _;(with_reducible repeat (first|refine blk_drewN ?_ _|refine blk_drew ?_|refine blk_alloc ?_ _));refine blk_far ?_ NB259_279.out _;(with_reducible repeat (first|refine blk_drewN ?_ _|refine blk_drew ?_|refine blk_alloc ?_ _));exact BK259.out) hb);have n7_:=Aside0.mk (blk_below (g:=gb279) (o:=.cells #[.int .i64 t275,.slice Ao121 t276.length co121] 30 (0,0)) (by (with_reducible repeat (first|refine blk_drewN ?_ _|refine blk_drew ?_|refine blk_alloc ?_ _));refine blk_put (cs:=#[.int .i64 t275,.slice none 0 0]) ?_ 1 _ rfl;(with_reducible repeat (first|refine blk_drewN ?_ _|refine blk_drew ?_|refine blk_alloc ?_ _));refine blk_put (cs:=#[.int .i64 0,.slice none 0 0]) ?_ 0 _ rfl;(with_reducible repeat (first|refine blk_drewN ?_ _|refine blk_drew ?_|refine blk_alloc ?_ _));exact BK279.out) hb);have n8_:=Aside0.mk (below_step (by repeat (first|(with_reducible first|exact HB.out|apply below_alloc|apply pw_below_drewN|apply below_drew1|refine below_set ?_ GE259.out|refine below_set ?_ GE279.out)|exact HB.out)) hb);clear HO264 HO268 HO271 HO274 HO278 BK259 BK279 HB;have HO264:=n0_;have HO268:=n1_;have HO271:=n2_;have HO274:=n3_;have HO278:=n4_;have HO282:=n5_;have BK259:=n6_;have BK279:=n7_;have HB:=n8_;clear n0_ n1_ n2_ n3_ n4_ n5_ n6_ n7_ n8_;(try clear hb);(try clear hb2);(try clear hk);(try clear hi);(try clear ho0);obtain ⟨Ao124,co124,eo124⟩:=Kd.R_slice HO282.out;subst eo124;obtain ⟨Ao125,co125,eo125⟩:=Kd.R_slice HO271.out;subst eo125)|((with_reducible refine gate_callee (f:=26) rfl ?_);refine goesL_ (some 38) rfl rfl Tryd.func26 (by kernel_rfl) rfl #[.slice Ao124 t280.length co124,.slice Ao125 t269.length co125] rfl (by (try simp only [List.map_toArray,List.map_cons,List.map_nil]);first|done|rfl|(simp only [List.length_drop,List.length_take];rfl)) ?_;(with_reducible refine (laws_eqInt64S.calls k _ _ t280 _ _ t269 true _ ?side1 ?side2 ?side3 ?side4 A17.out).mono ?_);(case side1 => repeat (first|exact (Kd.R_reads' HO282.out).2.2|(with_reducible first|refine Kd.C_alloc ?_ _|refine Kd.C_drewN ?_ _|refine Kd.C_drew ?_)));(case side2 => exact (Kd.R_reads' HO282.out).2.1);(case side3 => repeat (first|exact (Kd.R_reads' HO271.out).2.2|(with_reducible first|refine Kd.C_alloc ?_ _|refine Kd.C_drewN ?_ _|refine Kd.C_drew ?_)));(case side4 => exact (Kd.R_reads' HO271.out).2.1);rintro e w' ⟨rfl,⟨nd,rfl⟩⟩;refine ⟨_,rfl,?_⟩)|((with_reducible refine gate_callee (f:=19) rfl ?_);refine goesL_ (some 42) rfl rfl Tryd.func19 (by kernel_rfl) rfl #[.slice A0 l0.length c0] rfl (by (try simp only [List.map_toArray,List.map_cons,List.map_nil]);first|done|rfl|(simp only [List.length_drop,List.length_take];rfl)) ?_;(with_reducible refine (laws_toStringS.calls k _ _ l0 t284 _ ?side1 ?side2 A19.out).mono ?_);(case side1 => repeat (first|exact (Kd.C_below HR0.out (by repeat (first|(with_reducible first|exact HB.out|apply below_alloc|apply pw_below_drewN|apply below_drew1|refine below_set ?_ GE259.out|refine below_set ?_ GE279.out)|exact HB.out)))|(with_reducible first|refine Kd.C_alloc ?_ _|refine Kd.C_drewN ?_ _|refine Kd.C_drew ?_)));(case side2 => exact HC0.out);rintro e w126 ⟨v285,rfl,ho0,hb⟩;refine ⟨_,rfl,?_⟩;have n0_:=Aside0.mk (Kd.R_elder' (by (with_reducible repeat (first|apply Kd.R_alloc|apply Kd.R_drewN|apply Kd.R_drew));exact HO264.out) (Kd.R_base ho0) hb);have n1_:=Aside0.mk (Kd.R_below (by (with_reducible repeat (first|apply Kd.R_alloc|apply Kd.R_drewN|apply Kd.R_drew));exact HO268.out) hb);have n2_:=Aside0.mk (Kd.R_below (by (with_reducible repeat (first|apply Kd.R_alloc|apply Kd.R_drewN|apply Kd.R_drew));exact HO271.out) hb);have n3_:=Aside0.mk (Kd.R_elder' (by (with_reducible repeat (first|apply Kd.R_alloc|apply Kd.R_drewN|apply Kd.R_drew));exact HO274.out) (Kd.R_base ho0) hb);have n4_:=Aside0.mk (Kd.R_below (by (with_reducible repeat (first|apply Kd.R_alloc|apply Kd.R_drewN|apply Kd.R_drew));exact HO278.out) hb);have n5_:=Aside0.mk (Kd.R_below (by (with_reducible repeat (first|apply Kd.R_alloc|apply Kd.R_drewN|apply Kd.R_drew));exact HO282.out) hb);have n6_:=Aside0.mk (Kd.R_lower (Kd.R_new' (Kd.R_new' ho0 (Kd.R_lt (by (with_reducible repeat (first|apply Kd.R_alloc|apply Kd.R_drewN|apply Kd.R_drew));exact HO264.out))) (Kd.R_lt (by (with_reducible repeat (first|apply Kd.R_alloc|apply Kd.R_drewN|apply Kd.R_drew));exact HO274.out))) (below_size (by repeat (first|(with_reducible first|exact HB.out|apply below_alloc|apply pw_below_drewN|apply below_drew1|refine below_set ?_ GE259.out|refine below_set ?_ GE279.out)|exact HB.out))));have n7_:=Aside0.mk (blk_below (g:=gb259) (o:=.cells #[.int .i64 a1_0,.slice A1_1 l1_1.length c1_1] 25 (0,0)) (by (with_reducible repeat (first|refine blk_drewN ?_ _|refine blk_drew ?_|refine blk_alloc ?_ _));exact BK259.out) hb);have n8_:=Aside0.mk (blk_below (g:=gb279) (o:=.cells #[.int .i64 t275,.slice Ao121 t276.length co121] 30 (0,0)) (by (with_reducible repeat (first|refine blk_drewN ?_ _|refine blk_drew ?_|refine blk_alloc ?_ _));exact BK279.out) hb);have n9_:=Aside0.mk (below_step (by repeat (first|(with_reducible first|exact HB.out|apply below_alloc|apply pw_below_drewN|apply below_drew1|refine below_set ?_ GE259.out|refine below_set ?_ GE279.out)|exact HB.out)) hb);clear HO264 HO268 HO271 HO274 HO278 HO282 BK259 BK279 HB;have HO264:=n0_;have HO268:=n1_;have HO271:=n2_;have HO274:=n3_;have HO278:=n4_;have HO282:=n5_;have HO286:=n6_;have BK259:=n7_;have BK279:=n8_;have HB:=n9_;clear n0_ n1_ n2_ n3_ n4_ n5_ n6_ n7_ n8_ n9_;(try clear hb);(try clear hb2);(try clear hk);(try clear hi);(try clear ho0);obtain ⟨Ao127,co127,eo127⟩:=Kd.R_slice HO286.out;subst eo127)|((with_reducible refine gate_callee (f:=22) rfl ?_);refine goesL_ (some 43) rfl rfl Tryd.func22 (by kernel_rfl) rfl #[.slice Ao122 t272.length co122,.slice Ao127 t284.length co127] rfl (by (try simp only [List.map_toArray,List.map_cons,List.map_nil]);first|done|rfl|(simp only [List.length_drop,List.length_take];rfl)) ?_;(with_reducible refine (laws_eqStringS.calls k _ _ t272 _ _ t284 true _ ?side1 ?side2 ?side3 ?side4 A20.out).mono ?_);(case side1 => repeat (first|exact (Kd.R_reads' HO274.out).2.2|(with_reducible first|refine Kd.C_alloc ?_ _|refine Kd.C_drewN ?_ _|refine Kd.C_drew ?_)));(case side2 => exact (Kd.R_reads' HO274.out).2.1);(case side3 => repeat (first|exact (Kd.R_reads' HO286.out).2.2|(with_reducible first|refine Kd.C_alloc ?_ _|refine Kd.C_drewN ?_ _|refine Kd.C_drew ?_)));(case side4 => exact (Kd.R_reads' HO286.out).2.1);rintro e w' ⟨rfl,⟨nd,rfl⟩⟩;refine ⟨_,rfl,?_⟩))
      (try (rw [drewN_self w126];generalize hq_ : World.drewN w126 _ = w126;have n0_ : Aside0 (Kd.R Kd.string 9 w126 w.heap.size (fun k_ => some k_≠(.slice Ao122 t272.length co122 : Value).ownBlock∧some k_≠(.slice Ao127 t284.length co127 : Value).ownBlock) (.slice Ao112 t262.length co112) t262):=⟨by rw [← hq_];exact (by (with_reducible repeat (first|apply Kd.R_alloc|apply Kd.R_drewN|apply Kd.R_drew));exact Kd.R_mono HO264.out (fun _ hk => ⟨hk.1.2,hk.2⟩))⟩;have n1_ : Aside0 (Kd.R (Kd.int .i64) 2 w126 w.heap.size (fun k_ => some k_≠(.slice Ao125 t269.length co125 : Value).ownBlock∧some k_≠(.slice Ao121 t276.length co121 : Value).ownBlock∧some k_≠(.slice Ao124 t280.length co124 : Value).ownBlock) (.slice Ao113 t266.length co113) t266):=⟨by rw [← hq_];exact (by (with_reducible repeat (first|apply Kd.R_alloc|apply Kd.R_drewN|apply Kd.R_drew));exact Kd.R_mono HO268.out (fun _ hk => ⟨hk.1.1.2,⟨hk.1.2,hk.2⟩⟩))⟩;have n2_ : Aside0 (Kd.R (Kd.int .i64) 2 w126 w.heap.size (fun k_ => some k_≠(.slice Ao113 t266.length co113 : Value).ownBlock∧some k_≠(.slice Ao121 t276.length co121 : Value).ownBlock∧some k_≠(.slice Ao124 t280.length co124 : Value).ownBlock) (.slice Ao125 t269.length co125) t269):=⟨by rw [← hq_];exact (by (with_reducible repeat (first|apply Kd.R_alloc|apply Kd.R_drewN|apply Kd.R_drew));exact Kd.R_mono HO271.out (fun _ hk => ⟨hk.1.1.2,⟨hk.1.2,hk.2⟩⟩))⟩;have n3_ : Aside0 (Kd.R Kd.string 9 w126 w.heap.size (fun k_ => some k_≠(.slice Ao112 t262.length co112 : Value).ownBlock∧some k_≠(.slice Ao127 t284.length co127 : Value).ownBlock) (.slice Ao122 t272.length co122) t272):=⟨by rw [← hq_];exact (by (with_reducible repeat (first|apply Kd.R_alloc|apply Kd.R_drewN|apply Kd.R_drew));exact Kd.R_mono HO274.out (fun _ hk => ⟨hk.1.2,hk.2⟩))⟩;have n4_ : Aside0 (Kd.R (Kd.int .i64) 2 w126 w.heap.size (fun k_ => some k_≠(.slice Ao113 t266.length co113 : Value).ownBlock∧some k_≠(.slice Ao125 t269.length co125 : Value).ownBlock∧some k_≠(.slice Ao124 t280.length co124 : Value).ownBlock) (.slice Ao121 t276.length co121) t276):=⟨by rw [← hq_];exact (by (with_reducible repeat (first|apply Kd.R_alloc|apply Kd.R_drewN|apply Kd.R_drew));exact Kd.R_mono HO278.out (fun _ hk => ⟨hk.1.1.2,⟨hk.1.2,hk.2⟩⟩))⟩;have n5_ : Aside0 (Kd.R (Kd.int .i64) 2 w126 w.heap.size (fun k_ => some k_≠(.slice Ao113 t266.length co113 : Value).ownBlock∧some k_≠(.slice Ao125 t269.length co125 : Value).ownBlock∧some k_≠(.slice Ao121 t276.length co121 : Value).ownBlock) (.slice Ao124 t280.length co124) t280):=⟨by rw [← hq_];exact (by (with_reducible repeat (first|apply Kd.R_alloc|apply Kd.R_drewN|apply Kd.R_drew));exact Kd.R_mono HO282.out (fun _ hk => ⟨hk.1.1.2,⟨hk.1.2,hk.2⟩⟩))⟩;have n6_ : Aside0 (Kd.R Kd.string 9 w126 w.heap.size (fun k_ => some k_≠(.slice Ao112 t262.length co112 : Value).ownBlock∧some k_≠(.slice Ao122 t272.length co122 : Value).ownBlock) (.slice Ao127 t284.length co127) t284):=⟨by rw [← hq_];exact (by (with_reducible repeat (first|apply Kd.R_alloc|apply Kd.R_drewN|apply Kd.R_drew));exact Kd.R_mono HO286.out (fun _ hk => ⟨hk.1.2,hk.2⟩))⟩;have n7_ : Aside0 (w126.heap[gb259]? = some (.cells #[.int .i64 a1_0,.slice A1_1 l1_1.length c1_1] 25 (0,0))):=⟨by rw [← hq_];exact (by (with_reducible repeat (first|refine blk_drewN ?_ _|refine blk_drew ?_|refine blk_alloc ?_ _));exact BK259.out)⟩;have n8_ : Aside0 (w126.heap[gb279]? = some (.cells #[.int .i64 t275,.slice Ao121 t276.length co121] 30 (0,0))):=⟨by rw [← hq_];exact (by (with_reducible repeat (first|refine blk_drewN ?_ _|refine blk_drew ?_|refine blk_alloc ?_ _));exact BK279.out)⟩;have n9_ : Aside0 (Below w.heap.size w w126):=⟨by rw [← hq_];exact (by repeat (first|(with_reducible first|exact HB.out|apply below_alloc|apply pw_below_drewN|apply below_drew1|refine below_set ?_ GE259.out|refine below_set ?_ GE279.out)|exact HB.out))⟩;clear HO264 HO268 HO271 HO274 HO278 HO282 HO286 BK259 BK279 HB hq_;have HO264:=n0_;have HO268:=n1_;have HO271:=n2_;have HO274:=n3_;have HO278:=n4_;have HO282:=n5_;have HO286:=n6_;have BK259:=n7_;have BK279:=n8_;have HB:=n9_;clear n0_ n1_ n2_ n3_ n4_ n5_ n6_ n7_ n8_ n9_))
      have n0_:=Aside0.mk (Kd.R_drew HO264.out)
      have n1_:=Aside0.mk (Kd.R_drew HO268.out)
      have n2_:=Aside0.mk (Kd.R_drew HO271.out)
      have n3_:=Aside0.mk (Kd.R_drew HO274.out)
      have n4_:=Aside0.mk (Kd.R_drew HO278.out)
      have n5_:=Aside0.mk (Kd.R_drew HO282.out)
      have n6_:=Aside0.mk (Kd.R_drew HO286.out)
      have n7_:=Aside0.mk (blk_drew BK259.out)
      have n8_:=Aside0.mk (blk_drew BK279.out)
      have n9_:=Aside0.mk (below_drew1 HB.out)
      clear HO264
      clear HO268
      clear HO271
      clear HO274
      clear HO278
      clear HO282
      clear HO286
      clear BK259
      clear BK279
      clear HB
      have HO264:=n0_
      have HO268:=n1_
      have HO271:=n2_
      have HO274:=n3_
      have HO278:=n4_
      have HO282:=n5_
      have HO286:=n6_
      have BK259:=n7_
      have BK279:=n8_
      have HB:=n9_
      clear n0_ n1_ n2_ n3_ n4_ n5_ n6_ n7_ n8_ n9_
      refine start_ (n:=5) (S:=fun w' => w'.cell? ⟨gb279,0,none⟩ = some (.int .i64 t275)∧w'.cell? ⟨gb279,1,none⟩ = some (.slice Ao121 t276.length co121)∧w'.cell? ⟨gb259,0,none⟩ = some (.int .i64 a1_0)∧w'.cell? ⟨gb259,1,none⟩ = some (.slice A1_1 l1_1.length c1_1)) (ds:=[]) #[false,false,false,false,false] (by kernel_rfl) rfl rfl ⟨(blk_cell BK279.out 0).trans rfl,(blk_cell BK279.out 1).trans rfl,(blk_cell BK259.out 0).trans rfl,(blk_cell BK259.out 1).trans rfl⟩ (fun hHeld => ?_)
      generalize w126.drew = w128 at HO264 HO268 HO271 HO274 HO278 HO282 HO286 BK259 BK279 HB hHeld ⊢
      refine take_ (i:=0) (N:=some 45) (v:=?_) (a':=?_) #[true,false,false,false,false] rfl rfl (by kernel_rfl) (fun _ _ _ h => h) (Or.inl ⟨by rfl,?_⟩) hHeld ?_ ?_
      rotate_left
      ·rintro w' ⟨s0,s1,s2,s3⟩
       go_simp
       with_reducible rfl
      rotate_left
      ·simp only [Act.put,List.setIfInBounds_toArray,List.set_cons_zero,List.set_cons_succ,i64_w,i32_w]
       rfl
      refine take_ (i:=1) (N:=some 46) (v:=?_) (a':=?_) #[true,true,false,false,false] rfl rfl (by kernel_rfl) (fun _ _ _ h => h) (Or.inl ⟨by rfl,?_⟩) hHeld ?_ ?_
      rotate_left
      ·rintro w' ⟨s0,s1,s2,s3⟩
       go_simp
       with_reducible rfl
      rotate_left
      ·simp only [Act.put,List.setIfInBounds_toArray,List.set_cons_zero,List.set_cons_succ,i64_w,i32_w]
       rfl
      refine one_ (i:=2) (N:=some 47) #[true,true,true,false,false] rfl rfl (by kernel_rfl) (by decide) (fun K hK => ?_)
      refine goes_ Tryd.func20 (by kernel_rfl) rfl #[.agg #[.int .i64 a1_0,.slice A1_1 l1_1.length c1_1]] (by rfl) rfl rfl (by (try simp only [List.map_toArray,List.map_cons,List.map_nil]);first|done|rfl|(simp only [List.length_drop,List.length_take];rfl)) ?_
      with_reducible refine (laws_toNursery.calls k a1_0 _ _ l1_1 t288 t289 _ ?side1 ?side2 A22.out).mono ?_
      (case side1 => repeat (first|exact (Kd.C_below HR1_1.out HB.out)|(with_reducible first|refine Kd.C_alloc ?_ _|refine Kd.C_drewN ?_ _|refine Kd.C_drew ?_)))
      (case side2 => exact HC1_1.out)
      rintro e w129 ⟨v290,rfl,ho0,hb⟩
      refine ⟨_,rfl,?_⟩
      have n0_:=Aside0.mk (Kd.R_below (by (with_reducible repeat (first|apply Kd.R_alloc|apply Kd.R_drewN|apply Kd.R_drew));exact HO264.out) hb)
      have n1_:=Aside0.mk (Kd.R_elder' (by (with_reducible repeat (first|apply Kd.R_alloc|apply Kd.R_drewN|apply Kd.R_drew));exact HO268.out) (Kd.R_base ho0) hb)
      have n2_:=Aside0.mk (Kd.R_elder' (by (with_reducible repeat (first|apply Kd.R_alloc|apply Kd.R_drewN|apply Kd.R_drew));exact HO271.out) (Kd.R_base ho0) hb)
      have n3_:=Aside0.mk (Kd.R_below (by (with_reducible repeat (first|apply Kd.R_alloc|apply Kd.R_drewN|apply Kd.R_drew));exact HO274.out) hb)
      have n4_:=Aside0.mk (Kd.R_elder' (by (with_reducible repeat (first|apply Kd.R_alloc|apply Kd.R_drewN|apply Kd.R_drew));exact HO278.out) (Kd.R_base ho0) hb)
      have n5_:=Aside0.mk (Kd.R_elder' (by (with_reducible repeat (first|apply Kd.R_alloc|apply Kd.R_drewN|apply Kd.R_drew));exact HO282.out) (Kd.R_base ho0) hb)
      have n6_:=Aside0.mk (Kd.R_below (by (with_reducible repeat (first|apply Kd.R_alloc|apply Kd.R_drewN|apply Kd.R_drew));exact HO286.out) hb)
      have n7_:=Aside0.mk (Kd.R_lower (Kd.R_new' (Kd.R_new' (Kd.R_new' (Kd.R_new' ho0 (Kd.R_lt (by (with_reducible repeat (first|apply Kd.R_alloc|apply Kd.R_drewN|apply Kd.R_drew));exact HO268.out))) (Kd.R_lt (by (with_reducible repeat (first|apply Kd.R_alloc|apply Kd.R_drewN|apply Kd.R_drew));exact HO271.out))) (Kd.R_lt (by (with_reducible repeat (first|apply Kd.R_alloc|apply Kd.R_drewN|apply Kd.R_drew));exact HO278.out))) (Kd.R_lt (by (with_reducible repeat (first|apply Kd.R_alloc|apply Kd.R_drewN|apply Kd.R_drew));exact HO282.out))) (below_size (by repeat (first|(with_reducible first|exact HB.out|apply below_alloc|apply pw_below_drewN|apply below_drew1|refine below_set ?_ GE259.out|refine below_set ?_ GE279.out)|exact HB.out))))
      have n8_:=Aside0.mk (blk_below (g:=gb259) (o:=.cells #[.int .i64 a1_0,.slice A1_1 l1_1.length c1_1] 25 (0,0)) (by (with_reducible repeat (first|refine blk_drewN ?_ _|refine blk_drew ?_|refine blk_alloc ?_ _));exact BK259.out) hb)
      have n9_:=Aside0.mk (blk_below (g:=gb279) (o:=.cells #[.int .i64 t275,.slice Ao121 t276.length co121] 30 (0,0)) (by (with_reducible repeat (first|refine blk_drewN ?_ _|refine blk_drew ?_|refine blk_alloc ?_ _));exact BK279.out) hb)
      have n10_:=Aside0.mk (below_step (by repeat (first|(with_reducible first|exact HB.out|apply below_alloc|apply pw_below_drewN|apply below_drew1|refine below_set ?_ GE259.out|refine below_set ?_ GE279.out)|exact HB.out)) hb)
      clear HO264
      clear HO268
      clear HO271
      clear HO274
      clear HO278
      clear HO282
      clear HO286
      clear BK259
      clear BK279
      clear HB
      have HO264:=n0_
      have HO268:=n1_
      have HO271:=n2_
      have HO274:=n3_
      have HO278:=n4_
      have HO282:=n5_
      have HO286:=n6_
      have HO291:=n7_
      have BK259:=n8_
      have BK279:=n9_
      have HB:=n10_
      clear n0_ n1_ n2_ n3_ n4_ n5_ n6_ n7_ n8_ n9_ n10_
      (try clear hb)
      (try clear hb2)
      (try clear hk)
      (try clear hi)
      (try clear ho0)
      obtain ⟨Ao130,co130,eo130⟩:=Kd.R_slice HO291.out
      (first|subst eo130|(injection eo130 with f1_ f2_ f3_;have f4_:=f1_.symm;have f5_:=f3_.symm;clear f1_ f2_ f3_;subst f4_;subst f5_))
      refine hK.out _ _ ⟨(blk_cell BK279.out 0).trans rfl,(blk_cell BK279.out 1).trans rfl,(blk_cell BK259.out 0).trans rfl,(blk_cell BK259.out 1).trans rfl⟩ (fun hHeld => ?_)
      clear hK K
      refine norm_ (a':=?_) ?_ ?_
      rotate_left
      ·show Act.put _ (some 47) _ = _
       simp only [Act.put,List.setIfInBounds_toArray,List.set_cons_zero,List.set_cons_succ,i64_w,i32_w]
       rfl
      refine one_ (i:=3) (N:=some 48) #[true,true,true,true,false] rfl rfl (by kernel_rfl) (by decide) (fun K hK => ?_)
      refine goes_ Tryd.func23 (by kernel_rfl) rfl #[.agg #[.int .i64 t275,.slice Ao121 t276.length co121],.agg #[.int .i64 t288,.slice Ao130 t289.length co130]] (by rfl) rfl rfl (by (try simp only [List.map_toArray,List.map_cons,List.map_nil]);first|done|rfl|(simp only [List.length_drop,List.length_take];rfl)) ?_
      with_reducible refine (laws_eqNursery.calls k t275 _ _ t276 t288 _ _ t289 false _ ?side1 ?side2 ?side3 ?side4 A23.out).mono ?_
      (case side1 => repeat (first|exact (Kd.R_reads' HO278.out).2.2|(with_reducible first|refine Kd.C_alloc ?_ _|refine Kd.C_drewN ?_ _|refine Kd.C_drew ?_)))
      (case side2 => exact (Kd.R_reads' HO278.out).2.1)
      (case side3 => repeat (first|exact (Kd.R_reads' HO291.out).2.2|(with_reducible first|refine Kd.C_alloc ?_ _|refine Kd.C_drewN ?_ _|refine Kd.C_drew ?_)))
      (case side4 => exact (Kd.R_reads' HO291.out).2.1)
      rintro e w131 ⟨rfl,hb⟩
      refine ⟨_,rfl,?_⟩
      have n0_:=Aside0.mk (Kd.R_below (by (with_reducible repeat (first|apply Kd.R_alloc|apply Kd.R_drewN|apply Kd.R_drew));exact HO264.out) hb)
      have n1_:=Aside0.mk (Kd.R_below (by (with_reducible repeat (first|apply Kd.R_alloc|apply Kd.R_drewN|apply Kd.R_drew));exact HO268.out) hb)
      have n2_:=Aside0.mk (Kd.R_below (by (with_reducible repeat (first|apply Kd.R_alloc|apply Kd.R_drewN|apply Kd.R_drew));exact HO271.out) hb)
      have n3_:=Aside0.mk (Kd.R_below (by (with_reducible repeat (first|apply Kd.R_alloc|apply Kd.R_drewN|apply Kd.R_drew));exact HO274.out) hb)
      have n4_:=Aside0.mk (Kd.R_below (by (with_reducible repeat (first|apply Kd.R_alloc|apply Kd.R_drewN|apply Kd.R_drew));exact HO278.out) hb)
      have n5_:=Aside0.mk (Kd.R_below (by (with_reducible repeat (first|apply Kd.R_alloc|apply Kd.R_drewN|apply Kd.R_drew));exact HO282.out) hb)
      have n6_:=Aside0.mk (Kd.R_below (by (with_reducible repeat (first|apply Kd.R_alloc|apply Kd.R_drewN|apply Kd.R_drew));exact HO286.out) hb)
      have n7_:=Aside0.mk (Kd.R_below (by (with_reducible repeat (first|apply Kd.R_alloc|apply Kd.R_drewN|apply Kd.R_drew));exact HO291.out) hb)
      have n8_:=Aside0.mk (blk_below (g:=gb259) (o:=.cells #[.int .i64 a1_0,.slice A1_1 l1_1.length c1_1] 25 (0,0)) (by (with_reducible repeat (first|refine blk_drewN ?_ _|refine blk_drew ?_|refine blk_alloc ?_ _));exact BK259.out) hb)
      have n9_:=Aside0.mk (blk_below (g:=gb279) (o:=.cells #[.int .i64 t275,.slice Ao121 t276.length co121] 30 (0,0)) (by (with_reducible repeat (first|refine blk_drewN ?_ _|refine blk_drew ?_|refine blk_alloc ?_ _));exact BK279.out) hb)
      have n10_:=Aside0.mk (below_step (by repeat (first|(with_reducible first|exact HB.out|apply below_alloc|apply pw_below_drewN|apply below_drew1|refine below_set ?_ GE259.out|refine below_set ?_ GE279.out)|exact HB.out)) hb)
      clear HO264
      clear HO268
      clear HO271
      clear HO274
      clear HO278
      clear HO282
      clear HO286
      clear HO291
      clear BK259
      clear BK279
      clear HB
      have HO264:=n0_
      have HO268:=n1_
      have HO271:=n2_
      have HO274:=n3_
      have HO278:=n4_
      have HO282:=n5_
      have HO286:=n6_
      have HO291:=n7_
      have BK259:=n8_
      have BK279:=n9_
      have HB:=n10_
      clear n0_ n1_ n2_ n3_ n4_ n5_ n6_ n7_ n8_ n9_ n10_
      (try clear hb)
      (try clear hb2)
      (try clear hk)
      (try clear hi)
      refine hK.out _ _ ⟨(blk_cell BK279.out 0).trans rfl,(blk_cell BK279.out 1).trans rfl,(blk_cell BK259.out 0).trans rfl,(blk_cell BK259.out 1).trans rfl⟩ (fun hHeld => ?_)
      clear hK K
      refine norm_ (a':=?_) ?_ ?_
      rotate_left
      ·show Act.put _ (some 48) _ = _
       simp only [Act.put,List.setIfInBounds_toArray,List.set_cons_zero,List.set_cons_succ,i64_w,i32_w]
       rfl
      refine pure_ (i:=4) (N:=some 49) (v:=?_) (a':=?_) #[true,true,true,true,true] rfl rfl (by kernel_rfl) (fun _ _ _ h => h) (Or.inl ⟨by rfl,?_⟩) ?_ ?_
      rotate_left
      ·intro w'
       go_simp
       with_reducible rfl
      rotate_left
      ·simp only [Act.put,List.setIfInBounds_toArray,List.set_cons_zero,List.set_cons_succ,i64_w,i32_w]
       rfl
      refine done_ (by kernel_rfl) ?_
      try go_wp2
      go_ret
      exact ⟨by first|rfl|(simp [errW_none,errW_some] <;> rfl)|(simp [*,errW_none,errW_some] <;> rfl),by repeat (first|(with_reducible first|exact HB.out|apply below_alloc|apply pw_below_drewN|apply below_drew1|refine below_set ?_ GE259.out|refine below_set ?_ GE279.out)|exact HB.out)⟩
    ·replace c21:=Bool.eq_false_iff.mpr c21
     subst c21
     have H1 : (some false) = some r:=by rw [if_neg (show ¬ (false = true) by decide)] at H;exact H
     clear H
     have H:=H1
     clear H1
     obtain rfl:=Option.some.inj H
     go_enter Tryd.func4,Tryd.ntmps4
     try go_wp2_with (first|((with_reducible refine gate_dst (N:=3) rfl ?_);refine box_event ?hg (N:=3) ?hd (cs:=#[.int .i64 a1_0,.slice A1_1 l1_1.length c1_1]) (t:=25) ?hr ?_;(case hd => rfl);(case hg => rfl);(case hr => first|(go_simp;done)|(go_simp;rfl));intro gb259 hg w132 hbox hb;have n0_:=Aside0.mk (below_step (by repeat (first|(with_reducible first|exact HB.out|apply below_alloc|apply pw_below_drewN|apply below_drew1)|exact HB.out)) hb);have n1_:=Aside0.mk (hbox);have n2_:=Aside0.mk ((by rw [hg];exact (below_size (by repeat (first|(with_reducible first|exact HB.out|apply below_alloc|apply pw_below_drewN|apply below_drew1)|exact HB.out))) : w.heap.size ≤ gb259));have n3_:=Aside0.mk ((by rw [hg];exact (below_size (by repeat (first|(with_reducible first|exact HB.out|apply below_alloc|apply pw_below_drewN|apply below_drew1)|exact HB.out))) : w.heap.size ≤ gb259));clear HB;have HB:=n0_;have BK259:=n1_;have GW259:=n2_;have GE259:=n3_;clear n0_ n1_ n2_ n3_;clear hb hbox hg)|((with_reducible refine gate_callee (f:=16) rfl ?_);refine goesL_ (some 16) rfl rfl Tryd.func16 (by kernel_rfl) rfl #[.slice A0 l0.length c0,.int .i64 1048576] rfl (by (try simp only [List.map_toArray,List.map_cons,List.map_nil]);first|done|rfl|(simp only [List.length_drop,List.length_take];rfl)) ?_;(with_reducible refine (laws_szStringS.calls k _ _ l0 1048576 t260 _ ?side1 ?side2 A3.out).mono ?_);(case side1 => repeat (first|exact (Kd.C_below HR0.out HB.out)|(with_reducible first|refine Kd.C_alloc ?_ _|refine Kd.C_drewN ?_ _|refine Kd.C_drew ?_)));(case side2 => exact HC0.out);rintro e w' ⟨rfl,⟨nd,rfl⟩⟩;refine ⟨_,rfl,?_⟩;(try (rw [drewN_self w132];generalize hq_ : World.drewN w132 _ = w132;have n0_ : Aside0 (w132.heap[gb259]? = some (.cells #[.int .i64 a1_0,.slice A1_1 l1_1.length c1_1] 25 (0,0))):=⟨by rw [← hq_];exact (by (with_reducible repeat (first|refine blk_drewN ?_ _|refine blk_drew ?_|refine blk_alloc ?_ _));exact BK259.out)⟩;have n1_ : Aside0 (Below w.heap.size w w132):=⟨by rw [← hq_];exact (by repeat (first|(with_reducible first|exact HB.out|apply below_alloc|apply pw_below_drewN|apply below_drew1|refine below_set ?_ GE259.out)|exact HB.out))⟩;clear BK259 HB hq_;have BK259:=n0_;have HB:=n1_;clear n0_ n1_));have hcz133_0 : w132.cell? ⟨gb259,0,none⟩ = some (.int .i64 a1_0):=(blk_cell BK259.out 0).trans rfl;have hcz133_1 : w132.cell? ⟨gb259,1,none⟩ = some (.slice A1_1 l1_1.length c1_1):=(blk_cell BK259.out 1).trans rfl;have hfz133_0:=blk_frozen BK259.out 0;have hfz133_1:=blk_frozen BK259.out 1)|((with_reducible refine gate_callee (f:=17) rfl ?_);refine goesL_ (some 21) rfl rfl Tryd.func17 (by kernel_rfl) rfl #[.agg #[.int .i64 a1_0,.slice A1_1 l1_1.length c1_1],.int .i64 t260] rfl (by (try simp only [List.map_toArray,List.map_cons,List.map_nil]);first|done|rfl|(simp only [List.length_drop,List.length_take];rfl)) ?_;(with_reducible refine (laws_szNursery.calls a1_0 _ _ l1_1 t260 t261 _ ?side1 ?side2 A6.out).mono ?_);(case side1 => repeat (first|exact (Kd.C_below HR1_1.out HB.out)|(with_reducible first|refine Kd.C_alloc ?_ _|refine Kd.C_drewN ?_ _|refine Kd.C_drew ?_)));(case side2 => exact HC1_1.out);rintro e w134 ⟨rfl,hb⟩;refine ⟨_,rfl,?_⟩;have n0_:=Aside0.mk (blk_below (g:=gb259) (o:=.cells #[.int .i64 a1_0,.slice A1_1 l1_1.length c1_1] 25 (0,0)) (by (with_reducible repeat (first|refine blk_drewN ?_ _|refine blk_drew ?_|refine blk_alloc ?_ _));exact BK259.out) hb);have n1_:=Aside0.mk (below_step (by repeat (first|(with_reducible first|exact HB.out|apply below_alloc|apply pw_below_drewN|apply below_drew1|refine below_set ?_ GE259.out)|exact HB.out)) hb);clear BK259 HB;have BK259:=n0_;have HB:=n1_;clear n0_ n1_;(try clear hb);(try clear hb2);(try clear hk);(try clear hi)))
     have n0_:=Aside0.mk (blk_drew BK259.out)
     have n1_:=Aside0.mk (below_drew1 HB.out)
     clear BK259
     clear HB
     have BK259:=n0_
     have HB:=n1_
     clear n0_ n1_
     refine start_ (n:=6) (S:=fun w' => w'.cell? ⟨gb259,0,none⟩ = some (.int .i64 a1_0)∧w'.cell? ⟨gb259,1,none⟩ = some (.slice A1_1 l1_1.length c1_1)) (ds:=[]) #[false,false,false,false,false,false] (by kernel_rfl) rfl rfl ⟨(blk_cell BK259.out 0).trans rfl,(blk_cell BK259.out 1).trans rfl⟩ (fun hHeld => ?_)
     generalize w134.drew = w135 at BK259 HB hHeld ⊢
     refine pure_ (i:=0) (N:=some 24) (v:=?_) (a':=?_) #[true,false,false,false,false,false] rfl rfl (by kernel_rfl) (fun _ _ _ h => h) (Or.inl ⟨by rfl,?_⟩) ?_ ?_
     rotate_left
     ·intro w'
      go_simp
      with_reducible rfl
     rotate_left
     ·simp only [Act.put,List.setIfInBounds_toArray,List.set_cons_zero,List.set_cons_succ,i64_w,i32_w]
      rfl
     refine take_ (i:=2) (N:=some 26) (v:=?_) (a':=?_) #[true,false,true,false,false,false] rfl rfl (by kernel_rfl) (fun _ _ _ h => h) (Or.inl ⟨by rfl,?_⟩) hHeld ?_ ?_
     rotate_left
     ·rintro w' ⟨s0,s1⟩
      go_simp
      with_reducible rfl
     rotate_left
     ·simp only [Act.put,List.setIfInBounds_toArray,List.set_cons_zero,List.set_cons_succ,i64_w,i32_w]
      rfl
     refine one_ (i:=1) (N:=some 25) #[true,true,true,false,false,false] rfl rfl (by kernel_rfl) (by decide) (fun K hK => ?_)
     refine goes_ Tryd.func19 (by kernel_rfl) rfl #[.slice A0 l0.length c0] (by rfl) rfl rfl (by (try simp only [List.map_toArray,List.map_cons,List.map_nil]);first|done|rfl|(simp only [List.length_drop,List.length_take];rfl)) ?_
     with_reducible refine (laws_toStringS.calls k _ _ l0 t262 _ ?side1 ?side2 A11.out).mono ?_
     (case side1 => repeat (first|exact (Kd.C_below HR0.out HB.out)|(with_reducible first|refine Kd.C_alloc ?_ _|refine Kd.C_drewN ?_ _|refine Kd.C_drew ?_)))
     (case side2 => exact HC0.out)
     rintro e w136 ⟨v263,rfl,ho0,hb⟩
     refine ⟨_,rfl,?_⟩
     have n0_:=Aside0.mk (Kd.R_lower ho0 (below_size (by repeat (first|(with_reducible first|exact HB.out|apply below_alloc|apply pw_below_drewN|apply below_drew1|refine below_set ?_ GE259.out)|exact HB.out))))
     have n1_:=Aside0.mk (blk_below (g:=gb259) (o:=.cells #[.int .i64 a1_0,.slice A1_1 l1_1.length c1_1] 25 (0,0)) (by (with_reducible repeat (first|refine blk_drewN ?_ _|refine blk_drew ?_|refine blk_alloc ?_ _));exact BK259.out) hb)
     have n2_:=Aside0.mk (below_step (by repeat (first|(with_reducible first|exact HB.out|apply below_alloc|apply pw_below_drewN|apply below_drew1|refine below_set ?_ GE259.out)|exact HB.out)) hb)
     clear BK259
     clear HB
     have HO264:=n0_
     have BK259:=n1_
     have HB:=n2_
     clear n0_ n1_ n2_
     (try clear hb)
     (try clear hb2)
     (try clear hk)
     (try clear hi)
     (try clear ho0)
     refine hK.out _ _ ⟨(blk_cell BK259.out 0).trans rfl,(blk_cell BK259.out 1).trans rfl⟩ (fun hHeld => ?_)
     clear hK K
     refine norm_ (a':=?_) ?_ ?_
     rotate_left
     ·show Act.put _ (some 25) _ = _
      simp only [Act.put,List.setIfInBounds_toArray,List.set_cons_zero,List.set_cons_succ,i64_w,i32_w]
      rfl
     refine one_ (i:=3) (N:=some 27) #[true,true,true,true,false,false] rfl rfl (by kernel_rfl) (by decide) (fun K hK => ?_)
     refine goes_ Tryd.func20 (by kernel_rfl) rfl #[.agg #[.int .i64 a1_0,.slice A1_1 l1_1.length c1_1]] (by rfl) rfl rfl (by (try simp only [List.map_toArray,List.map_cons,List.map_nil]);first|done|rfl|(simp only [List.length_drop,List.length_take];rfl)) ?_
     with_reducible refine (laws_toNursery.calls k a1_0 _ _ l1_1 t265 t266 _ ?side1 ?side2 A12.out).mono ?_
     (case side1 => repeat (first|exact (Kd.C_below HR1_1.out HB.out)|(with_reducible first|refine Kd.C_alloc ?_ _|refine Kd.C_drewN ?_ _|refine Kd.C_drew ?_)))
     (case side2 => exact HC1_1.out)
     rintro e w137 ⟨v267,rfl,ho0,hb⟩
     refine ⟨_,rfl,?_⟩
     have n0_:=Aside0.mk (Kd.R_below (by (with_reducible repeat (first|apply Kd.R_alloc|apply Kd.R_drewN|apply Kd.R_drew));exact HO264.out) hb)
     have n1_:=Aside0.mk (Kd.R_lower ho0 (below_size (by repeat (first|(with_reducible first|exact HB.out|apply below_alloc|apply pw_below_drewN|apply below_drew1|refine below_set ?_ GE259.out)|exact HB.out))))
     have n2_:=Aside0.mk (blk_below (g:=gb259) (o:=.cells #[.int .i64 a1_0,.slice A1_1 l1_1.length c1_1] 25 (0,0)) (by (with_reducible repeat (first|refine blk_drewN ?_ _|refine blk_drew ?_|refine blk_alloc ?_ _));exact BK259.out) hb)
     have n3_:=Aside0.mk (below_step (by repeat (first|(with_reducible first|exact HB.out|apply below_alloc|apply pw_below_drewN|apply below_drew1|refine below_set ?_ GE259.out)|exact HB.out)) hb)
     clear HO264
     clear BK259
     clear HB
     have HO264:=n0_
     have HO268:=n1_
     have BK259:=n2_
     have HB:=n3_
     clear n0_ n1_ n2_ n3_
     (try clear hb)
     (try clear hb2)
     (try clear hk)
     (try clear hi)
     (try clear ho0)
     obtain ⟨Ao138,co138,eo138⟩:=Kd.R_slice HO264.out
     (first|subst eo138|(injection eo138 with f1_ f2_ f3_;have f4_:=f1_.symm;have f5_:=f3_.symm;clear f1_ f2_ f3_;subst f4_;subst f5_))
     obtain ⟨Ao139,co139,eo139⟩:=Kd.R_slice HO268.out
     (first|subst eo139|(injection eo139 with f1_ f2_ f3_;have f4_:=f1_.symm;have f5_:=f3_.symm;clear f1_ f2_ f3_;subst f4_;subst f5_))
     refine hK.out _ _ ⟨(blk_cell BK259.out 0).trans rfl,(blk_cell BK259.out 1).trans rfl⟩ (fun hHeld => ?_)
     clear hK K
     refine norm_ (a':=?_) ?_ ?_
     rotate_left
     ·show Act.put _ (some 27) _ = _
      simp only [Act.put,List.setIfInBounds_toArray,List.set_cons_zero,List.set_cons_succ,i64_w,i32_w]
      rfl
     refine one_ (i:=4) (N:=some 28) #[true,true,true,true,true,false] rfl rfl (by kernel_rfl) (by decide) (fun K hK => ?_)
     refine goes_ Tryd.func24 (by kernel_rfl) rfl #[.slice Ao138 t262.length co138,.agg #[.int .i64 t265,.slice Ao139 t266.length co139]] (by rfl) rfl rfl (by (try simp only [List.map_toArray,List.map_cons,List.map_nil]);first|done|rfl|(simp only [List.length_drop,List.length_take];rfl)) ?_
     with_reducible refine (spec_Starts.calls k _ _ t262 t265 _ _ t266 t269 _ ?side1 ?side2 ?side3 ?side4 A13.out).mono ?_
     (case side1 => repeat (first|exact (Kd.R_reads' HO264.out).2.2|(with_reducible first|refine Kd.C_alloc ?_ _|refine Kd.C_drewN ?_ _|refine Kd.C_drew ?_)))
     (case side2 => exact (Kd.R_reads' HO264.out).2.1)
     (case side3 => repeat (first|exact (Kd.R_reads' HO268.out).2.2|(with_reducible first|refine Kd.C_alloc ?_ _|refine Kd.C_drewN ?_ _|refine Kd.C_drew ?_)))
     (case side4 => exact (Kd.R_reads' HO268.out).2.1)
     rintro e w140 ⟨v270,rfl,ho0,hb⟩
     refine ⟨_,rfl,?_⟩
     have n0_:=Aside0.mk (Kd.R_below (by (with_reducible repeat (first|apply Kd.R_alloc|apply Kd.R_drewN|apply Kd.R_drew));exact HO264.out) hb)
     have n1_:=Aside0.mk (Kd.R_elder' (by (with_reducible repeat (first|apply Kd.R_alloc|apply Kd.R_drewN|apply Kd.R_drew));exact HO268.out) (Kd.R_base ho0) hb)
     have n2_:=Aside0.mk (Kd.R_lower (Kd.R_new' ho0 (Kd.R_lt (by (with_reducible repeat (first|apply Kd.R_alloc|apply Kd.R_drewN|apply Kd.R_drew));exact HO268.out))) (below_size (by repeat (first|(with_reducible first|exact HB.out|apply below_alloc|apply pw_below_drewN|apply below_drew1|refine below_set ?_ GE259.out)|exact HB.out))))
     have n3_:=Aside0.mk (blk_below (g:=gb259) (o:=.cells #[.int .i64 a1_0,.slice A1_1 l1_1.length c1_1] 25 (0,0)) (by (with_reducible repeat (first|refine blk_drewN ?_ _|refine blk_drew ?_|refine blk_alloc ?_ _));exact BK259.out) hb)
     have n4_:=Aside0.mk (below_step (by repeat (first|(with_reducible first|exact HB.out|apply below_alloc|apply pw_below_drewN|apply below_drew1|refine below_set ?_ GE259.out)|exact HB.out)) hb)
     clear HO264
     clear HO268
     clear BK259
     clear HB
     have HO264:=n0_
     have HO268:=n1_
     have HO271:=n2_
     have BK259:=n3_
     have HB:=n4_
     clear n0_ n1_ n2_ n3_ n4_
     (try clear hb)
     (try clear hb2)
     (try clear hk)
     (try clear hi)
     (try clear ho0)
     refine hK.out _ _ ⟨(blk_cell BK259.out 0).trans rfl,(blk_cell BK259.out 1).trans rfl⟩ (fun hHeld => ?_)
     clear hK K
     refine norm_ (a':=?_) ?_ ?_
     rotate_left
     ·show Act.put _ (some 28) _ = _
      simp only [Act.put,List.setIfInBounds_toArray,List.set_cons_zero,List.set_cons_succ,i64_w,i32_w]
      rfl
     refine pure_ (i:=5) (N:=some 6) (v:=?_) (a':=?_) #[true,true,true,true,true,true] rfl rfl (by kernel_rfl) (fun _ _ _ h => h) (Or.inl ⟨by rfl,?_⟩) ?_ ?_
     rotate_left
     ·intro w'
      go_simp
      with_reducible rfl
     rotate_left
     ·simp only [Act.put,List.setIfInBounds_toArray,List.set_cons_zero,List.set_cons_succ,i64_w,i32_w]
      rfl
     refine done_ (by kernel_rfl) ?_
     try go_wp2_with (first|((with_reducible refine gate_callee (f:=19) rfl ?_);refine goesL_ (some 30) rfl rfl Tryd.func19 (by kernel_rfl) rfl #[.slice A0 l0.length c0] rfl (by (try simp only [List.map_toArray,List.map_cons,List.map_nil]);first|done|rfl|(simp only [List.length_drop,List.length_take];rfl)) ?_;(with_reducible refine (laws_toStringS.calls k _ _ l0 t272 _ ?side1 ?side2 A14.out).mono ?_);(case side1 => repeat (first|exact (Kd.C_below HR0.out HB.out)|(with_reducible first|refine Kd.C_alloc ?_ _|refine Kd.C_drewN ?_ _|refine Kd.C_drew ?_)));(case side2 => exact HC0.out);rintro e w141 ⟨v273,rfl,ho0,hb⟩;refine ⟨_,rfl,?_⟩;have n0_:=Aside0.mk (Kd.R_elder' (by (with_reducible repeat (first|apply Kd.R_alloc|apply Kd.R_drewN|apply Kd.R_drew));exact HO264.out) (Kd.R_base ho0) hb);have n1_:=Aside0.mk (Kd.R_below (by (with_reducible repeat (first|apply Kd.R_alloc|apply Kd.R_drewN|apply Kd.R_drew));exact HO268.out) hb);have n2_:=Aside0.mk (Kd.R_below (by (with_reducible repeat (first|apply Kd.R_alloc|apply Kd.R_drewN|apply Kd.R_drew));exact HO271.out) hb);have n3_:=Aside0.mk (Kd.R_lower (Kd.R_new' ho0 (Kd.R_lt (by (with_reducible repeat (first|apply Kd.R_alloc|apply Kd.R_drewN|apply Kd.R_drew));exact HO264.out))) (below_size (by repeat (first|(with_reducible first|exact HB.out|apply below_alloc|apply pw_below_drewN|apply below_drew1|refine below_set ?_ GE259.out)|exact HB.out))));have n4_:=Aside0.mk (blk_below (g:=gb259) (o:=.cells #[.int .i64 a1_0,.slice A1_1 l1_1.length c1_1] 25 (0,0)) (by (with_reducible repeat (first|refine blk_drewN ?_ _|refine blk_drew ?_|refine blk_alloc ?_ _));exact BK259.out) hb);have n5_:=Aside0.mk (below_step (by repeat (first|(with_reducible first|exact HB.out|apply below_alloc|apply pw_below_drewN|apply below_drew1|refine below_set ?_ GE259.out)|exact HB.out)) hb);clear HO264 HO268 HO271 BK259 HB;have HO264:=n0_;have HO268:=n1_;have HO271:=n2_;have HO274:=n3_;have BK259:=n4_;have HB:=n5_;clear n0_ n1_ n2_ n3_ n4_ n5_;(try clear hb);(try clear hb2);(try clear hk);(try clear hi);(try clear ho0);have hcz142_0 : w141.cell? ⟨gb259,0,none⟩ = some (.int .i64 a1_0):=(blk_cell BK259.out 0).trans rfl;have hcz142_1 : w141.cell? ⟨gb259,1,none⟩ = some (.slice A1_1 l1_1.length c1_1):=(blk_cell BK259.out 1).trans rfl;have hfz142_0:=blk_frozen BK259.out 0;have hfz142_1:=blk_frozen BK259.out 1)|((with_reducible refine gate_callee (f:=20) rfl ?_);refine goesL_ (some 32) rfl rfl Tryd.func20 (by kernel_rfl) rfl #[.agg #[.int .i64 a1_0,.slice A1_1 l1_1.length c1_1]] rfl (by (try simp only [List.map_toArray,List.map_cons,List.map_nil]);first|done|rfl|(simp only [List.length_drop,List.length_take];rfl)) ?_;(with_reducible refine (laws_toNursery.calls k a1_0 _ _ l1_1 t275 t276 _ ?side1 ?side2 A15.out).mono ?_);(case side1 => repeat (first|exact (Kd.C_below HR1_1.out HB.out)|(with_reducible first|refine Kd.C_alloc ?_ _|refine Kd.C_drewN ?_ _|refine Kd.C_drew ?_)));(case side2 => exact HC1_1.out);rintro e w143 ⟨v277,rfl,ho0,hb⟩;refine ⟨_,rfl,?_⟩;have n0_:=Aside0.mk (Kd.R_below (by (with_reducible repeat (first|apply Kd.R_alloc|apply Kd.R_drewN|apply Kd.R_drew));exact HO264.out) hb);have n1_:=Aside0.mk (Kd.R_elder' (by (with_reducible repeat (first|apply Kd.R_alloc|apply Kd.R_drewN|apply Kd.R_drew));exact HO268.out) (Kd.R_base ho0) hb);have n2_:=Aside0.mk (Kd.R_elder' (by (with_reducible repeat (first|apply Kd.R_alloc|apply Kd.R_drewN|apply Kd.R_drew));exact HO271.out) (Kd.R_base ho0) hb);have n3_:=Aside0.mk (Kd.R_below (by (with_reducible repeat (first|apply Kd.R_alloc|apply Kd.R_drewN|apply Kd.R_drew));exact HO274.out) hb);have n4_:=Aside0.mk (Kd.R_lower (Kd.R_new' (Kd.R_new' ho0 (Kd.R_lt (by (with_reducible repeat (first|apply Kd.R_alloc|apply Kd.R_drewN|apply Kd.R_drew));exact HO268.out))) (Kd.R_lt (by (with_reducible repeat (first|apply Kd.R_alloc|apply Kd.R_drewN|apply Kd.R_drew));exact HO271.out))) (below_size (by repeat (first|(with_reducible first|exact HB.out|apply below_alloc|apply pw_below_drewN|apply below_drew1|refine below_set ?_ GE259.out)|exact HB.out))));have n5_:=Aside0.mk (blk_below (g:=gb259) (o:=.cells #[.int .i64 a1_0,.slice A1_1 l1_1.length c1_1] 25 (0,0)) (by (with_reducible repeat (first|refine blk_drewN ?_ _|refine blk_drew ?_|refine blk_alloc ?_ _));exact BK259.out) hb);have n6_:=Aside0.mk (below_step (by repeat (first|(with_reducible first|exact HB.out|apply below_alloc|apply pw_below_drewN|apply below_drew1|refine below_set ?_ GE259.out)|exact HB.out)) hb);clear HO264 HO268 HO271 HO274 BK259 HB;have HO264:=n0_;have HO268:=n1_;have HO271:=n2_;have HO274:=n3_;have HO278:=n4_;have BK259:=n5_;have HB:=n6_;clear n0_ n1_ n2_ n3_ n4_ n5_ n6_;(try clear hb);(try clear hb2);(try clear hk);(try clear hi);(try clear ho0))|((with_reducible refine gate_dst (N:=8) rfl ?_);refine box_event ?hg (N:=8) ?hd (cs:=#[.int .i64 0,.slice none 0 0]) (t:=30) ?hr ?_;(case hd => rfl);(case hg => rfl);(case hr => first|(go_simp;done)|(go_simp;rfl));intro gb279 hg w144 hbox hb;have n0_:=Aside0.mk (Kd.R_below (by (with_reducible repeat (first|apply Kd.R_alloc|apply Kd.R_drewN|apply Kd.R_drew));exact HO264.out) hb);have n1_:=Aside0.mk (Kd.R_below (by (with_reducible repeat (first|apply Kd.R_alloc|apply Kd.R_drewN|apply Kd.R_drew));exact HO268.out) hb);have n2_:=Aside0.mk (Kd.R_below (by (with_reducible repeat (first|apply Kd.R_alloc|apply Kd.R_drewN|apply Kd.R_drew));exact HO271.out) hb);have n3_:=Aside0.mk (Kd.R_below (by (with_reducible repeat (first|apply Kd.R_alloc|apply Kd.R_drewN|apply Kd.R_drew));exact HO274.out) hb);have n4_:=Aside0.mk (Kd.R_below (by (with_reducible repeat (first|apply Kd.R_alloc|apply Kd.R_drewN|apply Kd.R_drew));exact HO278.out) hb);have n5_:=Aside0.mk (blk_below (g:=gb259) (o:=.cells #[.int .i64 a1_0,.slice A1_1 l1_1.length c1_1] 25 (0,0)) (by (with_reducible repeat (first|refine blk_drewN ?_ _|refine blk_drew ?_|refine blk_alloc ?_ _));exact BK259.out) hb);have n6_:=Aside0.mk (below_step (by repeat (first|(with_reducible first|exact HB.out|apply below_alloc|apply pw_below_drewN|apply below_drew1|refine below_set ?_ GE259.out)|exact HB.out)) hb);have n7_:=Aside0.mk (hbox);have n8_:=Aside0.mk ((by rw [hg];exact (below_size (by repeat (first|(with_reducible first|exact HB.out|apply below_alloc|apply pw_below_drewN|apply below_drew1|refine below_set ?_ GE259.out)|exact HB.out))) : w.heap.size ≤ gb279));have n9_:=Aside0.mk ((by rw [hg];exact (below_size (by repeat (first|(with_reducible first|exact HB.out|apply below_alloc|apply pw_below_drewN|apply below_drew1|refine below_set ?_ GE259.out)|exact HB.out))) : w.heap.size ≤ gb279));have n10_:=Aside0.mk ((by rw [hg];exact Nat.ne_of_lt (blk_lt (g:=gb259) (o:=.cells #[.int .i64 a1_0,.slice A1_1 l1_1.length c1_1] 25 (0,0)) (by (with_reducible repeat (first|refine blk_drewN ?_ _|refine blk_drew ?_|refine blk_alloc ?_ _));exact BK259.out)) : gb259≠gb279));have n11_:=Aside0.mk ((by rw [hg];exact Nat.ne_of_gt (blk_lt (g:=gb259) (o:=.cells #[.int .i64 a1_0,.slice A1_1 l1_1.length c1_1] 25 (0,0)) (by (with_reducible repeat (first|refine blk_drewN ?_ _|refine blk_drew ?_|refine blk_alloc ?_ _));exact BK259.out)) : gb279≠gb259));clear HO264 HO268 HO271 HO274 HO278 BK259 HB;have HO264:=n0_;have HO268:=n1_;have HO271:=n2_;have HO274:=n3_;have HO278:=n4_;have BK259:=n5_;have HB:=n6_;have BK279:=n7_;have GW279:=n8_;have GE279:=n9_;have NB259_279:=n10_;have NB279_259:=n11_;clear n0_ n1_ n2_ n3_ n4_ n5_ n6_ n7_ n8_ n9_ n10_ n11_;clear hb hbox hg;have hnb145:=NB279_259.out;have hnc145:=NB259_279.out;have hcz146_0 : w144.cell? ⟨gb279,0,none⟩ = some (.int .i64 0):=(blk_cell BK279.out 0).trans rfl;have hcz146_1 : w144.cell? ⟨gb279,1,none⟩ = some (.slice none 0 0):=(blk_cell BK279.out 1).trans rfl;have hfz146_0:=blk_frozen BK279.out 0;have hfz146_1:=blk_frozen BK279.out 1;obtain ⟨Ao147,co147,eo147⟩:=Kd.R_slice HO278.out;subst eo147;obtain ⟨Ao148,co148,eo148⟩:=Kd.R_slice HO274.out;subst eo148)|((with_reducible refine gate_callee (f:=25) rfl ?_);refine goesL_ (some 35) rfl rfl Tryd.func25 (by kernel_rfl) rfl #[.slice Ao148 t272.length co148,.agg #[.int .i64 t275,.slice Ao147 t276.length co147]] rfl (by (try simp only [List.map_toArray,List.map_cons,List.map_nil]);first|done|rfl|(simp only [List.length_drop,List.length_take];rfl)) ?_;(with_reducible refine (impl_Starts.calls k _ _ t272 t275 _ _ t276 t280 _ ?side1 ?side2 ?side3 ?side4 A16.out).mono ?_);(case side1 => refine (Kd.R_reads' (e:=9) (base:=w.heap.size) (ok:=fun k_ => (True∧some k_≠(.slice Ao138 t262.length co138 : Value).ownBlock)) (n:=t272.length) (c:=co148) ?_).2.2;exact (by (with_reducible repeat (first|apply Kd.R_alloc|apply Kd.R_drewN|apply Kd.R_drew));exact (Kd.R_mono (Kd.R_far (p:=⟨gb279,1,none⟩) (Kd.R_far (p:=⟨gb279,0,none⟩) (Kd.R_types HO274.out BK279.out (by decide)) (fun _ hk => hk.2) (.int .i64 t275)) (fun _ hk => hk.2) (.slice Ao147 t276.length co147)) (fun _ h_ => h_.1))));(case side2 => exact (Kd.R_reads' HO274.out).2.1);(case side3 => refine (Kd.R_reads' (e:=2) (base:=w.heap.size) (ok:=fun k_ => ((True∧some k_≠(.slice Ao139 t266.length co139 : Value).ownBlock)∧some k_≠(v270 : Value).ownBlock)) (n:=t276.length) (c:=co147) ?_).2.2;exact (by (with_reducible repeat (first|apply Kd.R_alloc|apply Kd.R_drewN|apply Kd.R_drew));exact (Kd.R_mono (Kd.R_far (p:=⟨gb279,1,none⟩) (Kd.R_far (p:=⟨gb279,0,none⟩) (Kd.R_types HO278.out BK279.out (by decide)) (fun _ hk => hk.2) (.int .i64 t275)) (fun _ hk => hk.2) (.slice Ao147 t276.length co147)) (fun _ h_ => h_.1))));(case side4 => exact (Kd.R_reads' HO278.out).2.1);rintro e w149 ⟨v281,rfl,ho0,hb⟩;refine ⟨_,rfl,?_⟩;have n0_:=Aside0.mk (Kd.R_below (by (with_reducible repeat (first|apply Kd.R_alloc|apply Kd.R_drewN|apply Kd.R_drew));exact (Kd.R_mono (Kd.R_far (p:=⟨gb279,1,none⟩) (Kd.R_far (p:=⟨gb279,0,none⟩) (Kd.R_types HO264.out BK279.out (by decide)) (fun _ hk => hk.2) (.int .i64 t275)) (fun _ hk => hk.2) (.slice Ao147 t276.length co147)) (fun _ h_ => h_.1))) hb);have n1_:=Aside0.mk (Kd.R_elder' (by (with_reducible repeat (first|apply Kd.R_alloc|apply Kd.R_drewN|apply Kd.R_drew));exact (Kd.R_mono (Kd.R_far (p:=⟨gb279,1,none⟩) (Kd.R_far (p:=⟨gb279,0,none⟩) (Kd.R_types HO268.out BK279.out (by decide)) (fun _ hk => hk.2) (.int .i64 t275)) (fun _ hk => hk.2) (.slice Ao147 t276.length co147)) (fun _ h_ => h_.1))) (Kd.R_base ho0) hb);have n2_:=Aside0.mk (Kd.R_elder' (by (with_reducible repeat (first|apply Kd.R_alloc|apply Kd.R_drewN|apply Kd.R_drew));exact (Kd.R_mono (Kd.R_far (p:=⟨gb279,1,none⟩) (Kd.R_far (p:=⟨gb279,0,none⟩) (Kd.R_types HO271.out BK279.out (by decide)) (fun _ hk => hk.2) (.int .i64 t275)) (fun _ hk => hk.2) (.slice Ao147 t276.length co147)) (fun _ h_ => h_.1))) (Kd.R_base ho0) hb);have n3_:=Aside0.mk (Kd.R_below (by (with_reducible repeat (first|apply Kd.R_alloc|apply Kd.R_drewN|apply Kd.R_drew));exact (Kd.R_mono (Kd.R_far (p:=⟨gb279,1,none⟩) (Kd.R_far (p:=⟨gb279,0,none⟩) (Kd.R_types HO274.out BK279.out (by decide)) (fun _ hk => hk.2) (.int .i64 t275)) (fun _ hk => hk.2) (.slice Ao147 t276.length co147)) (fun _ h_ => h_.1))) hb);have n4_:=Aside0.mk (Kd.R_elder' (by (with_reducible repeat (first|apply Kd.R_alloc|apply Kd.R_drewN|apply Kd.R_drew));exact (Kd.R_mono (Kd.R_far (p:=⟨gb279,1,none⟩) (Kd.R_far (p:=⟨gb279,0,none⟩) (Kd.R_types HO278.out BK279.out (by decide)) (fun _ hk => hk.2) (.int .i64 t275)) (fun _ hk => hk.2) (.slice Ao147 t276.length co147)) (fun _ h_ => h_.1))) (Kd.R_base ho0) hb);have n5_:=Aside0.mk (Kd.R_lower (Kd.R_new' (Kd.R_new' (Kd.R_new' ho0 (Kd.R_lt (by (with_reducible repeat (first|apply Kd.R_alloc|apply Kd.R_drewN|apply Kd.R_drew));exact (Kd.R_mono (Kd.R_far (p:=⟨gb279,1,none⟩) (Kd.R_far (p:=⟨gb279,0,none⟩) (Kd.R_types HO268.out BK279.out (by decide)) (fun _ hk => hk.2) (.int .i64 t275)) (fun _ hk => hk.2) (.slice Ao147 t276.length co147)) (fun _ h_ => h_.1))))) (Kd.R_lt (by (with_reducible repeat (first|apply Kd.R_alloc|apply Kd.R_drewN|apply Kd.R_drew));exact (Kd.R_mono (Kd.R_far (p:=⟨gb279,1,none⟩) (Kd.R_far (p:=⟨gb279,0,none⟩) (Kd.R_types HO271.out BK279.out (by decide)) (fun _ hk => hk.2) (.int .i64 t275)) (fun _ hk => hk.2) (.slice Ao147 t276.length co147)) (fun _ h_ => h_.1))))) (Kd.R_lt (by (with_reducible repeat (first|apply Kd.R_alloc|apply Kd.R_drewN|apply Kd.R_drew));exact (Kd.R_mono (Kd.R_far (p:=⟨gb279,1,none⟩) (Kd.R_far (p:=⟨gb279,0,none⟩) (Kd.R_types HO278.out BK279.out (by decide)) (fun _ hk => hk.2) (.int .i64 t275)) (fun _ hk => hk.2) (.slice Ao147 t276.length co147)) (fun _ h_ => h_.1))))) (below_size (by repeat (first|(with_reducible first|exact HB.out|apply below_alloc|apply pw_below_drewN|apply below_drew1|refine below_set ?_ GE259.out|refine below_set ?_ GE279.out)|exact HB.out))));have n6_:=Aside0.mk (blk_below (g:=gb259) (o:=.cells #[.int .i64 a1_0,.slice A1_1 l1_1.length c1_1] 25 (0,0)) (by (with_reducible repeat (first|refine blk_drewN ?_ _|refine blk_drew ?_|refine blk_alloc ?_ _));refine blk_far ?_ NB259_279.out _;(with_reducible repeat (first|refine blk_drewN ?_ _|refine blk_drew ?_|refine blk_alloc ?_ _));refine blk_far ?_ NB259_279.out _;(with_reducible repeat (first|refine blk_drewN ?_ _|refine blk_drew ?_|refine blk_alloc ?_ _));exact BK259.out) hb);have n7_:=Aside0.mk (blk_below (g:=gb279) (o:=.cells #[.int .i64 t275,.slice Ao147 t276.length co147] 30 (0,0)) (by (with_reducible repeat (first|refine blk_drewN ?_ _|refine blk_drew ?_|refine blk_alloc ?_ _));refine blk_put (cs:=#[.int .i64 t275,.slice none 0 0]) ?_ 1 _ rfl;(with_reducible repeat (first|refine blk_drewN ?_ _|refine blk_drew ?_|refine blk_alloc ?_ _));refine blk_put (cs:=#[.int .i64 0,.slice none 0 0]) ?_ 0 _ rfl;(with_reducible repeat (first|refine blk_drewN ?_ _|refine blk_drew ?_|refine blk_alloc ?_ _));exact BK279.out) hb);have n8_:=Aside0.mk (below_step (by repeat (first|(with_reducible first|exact HB.out|apply below_alloc|apply pw_below_drewN|apply below_drew1|refine below_set ?_ GE259.out|refine below_set ?_ GE279.out)|exact HB.out)) hb);clear HO264 HO268 HO271 HO274 HO278 BK259 BK279 HB;have HO264:=n0_;have HO268:=n1_;have HO271:=n2_;have HO274:=n3_;have HO278:=n4_;have HO282:=n5_;have BK259:=n6_;have BK279:=n7_;have HB:=n8_;clear n0_ n1_ n2_ n3_ n4_ n5_ n6_ n7_ n8_;(try clear hb);(try clear hb2);(try clear hk);(try clear hi);(try clear ho0);obtain ⟨Ao150,co150,eo150⟩:=Kd.R_slice HO282.out;subst eo150;obtain ⟨Ao151,co151,eo151⟩:=Kd.R_slice HO271.out;subst eo151)|((with_reducible refine gate_callee (f:=26) rfl ?_);refine goesL_ (some 38) rfl rfl Tryd.func26 (by kernel_rfl) rfl #[.slice Ao150 t280.length co150,.slice Ao151 t269.length co151] rfl (by (try simp only [List.map_toArray,List.map_cons,List.map_nil]);first|done|rfl|(simp only [List.length_drop,List.length_take];rfl)) ?_;(with_reducible refine (laws_eqInt64S.calls k _ _ t280 _ _ t269 true _ ?side1 ?side2 ?side3 ?side4 A17.out).mono ?_);(case side1 => repeat (first|exact (Kd.R_reads' HO282.out).2.2|(with_reducible first|refine Kd.C_alloc ?_ _|refine Kd.C_drewN ?_ _|refine Kd.C_drew ?_)));(case side2 => exact (Kd.R_reads' HO282.out).2.1);(case side3 => repeat (first|exact (Kd.R_reads' HO271.out).2.2|(with_reducible first|refine Kd.C_alloc ?_ _|refine Kd.C_drewN ?_ _|refine Kd.C_drew ?_)));(case side4 => exact (Kd.R_reads' HO271.out).2.1);rintro e w' ⟨rfl,⟨nd,rfl⟩⟩;refine ⟨_,rfl,?_⟩)|((with_reducible refine gate_callee (f:=19) rfl ?_);refine goesL_ (some 42) rfl rfl Tryd.func19 (by kernel_rfl) rfl #[.slice A0 l0.length c0] rfl (by (try simp only [List.map_toArray,List.map_cons,List.map_nil]);first|done|rfl|(simp only [List.length_drop,List.length_take];rfl)) ?_;(with_reducible refine (laws_toStringS.calls k _ _ l0 t284 _ ?side1 ?side2 A19.out).mono ?_);(case side1 => repeat (first|exact (Kd.C_below HR0.out (by repeat (first|(with_reducible first|exact HB.out|apply below_alloc|apply pw_below_drewN|apply below_drew1|refine below_set ?_ GE259.out|refine below_set ?_ GE279.out)|exact HB.out)))|(with_reducible first|refine Kd.C_alloc ?_ _|refine Kd.C_drewN ?_ _|refine Kd.C_drew ?_)));(case side2 => exact HC0.out);rintro e w152 ⟨v285,rfl,ho0,hb⟩;refine ⟨_,rfl,?_⟩;have n0_:=Aside0.mk (Kd.R_elder' (by (with_reducible repeat (first|apply Kd.R_alloc|apply Kd.R_drewN|apply Kd.R_drew));exact HO264.out) (Kd.R_base ho0) hb);have n1_:=Aside0.mk (Kd.R_below (by (with_reducible repeat (first|apply Kd.R_alloc|apply Kd.R_drewN|apply Kd.R_drew));exact HO268.out) hb);have n2_:=Aside0.mk (Kd.R_below (by (with_reducible repeat (first|apply Kd.R_alloc|apply Kd.R_drewN|apply Kd.R_drew));exact HO271.out) hb);have n3_:=Aside0.mk (Kd.R_elder' (by (with_reducible repeat (first|apply Kd.R_alloc|apply Kd.R_drewN|apply Kd.R_drew));exact HO274.out) (Kd.R_base ho0) hb);have n4_:=Aside0.mk (Kd.R_below (by (with_reducible repeat (first|apply Kd.R_alloc|apply Kd.R_drewN|apply Kd.R_drew));exact HO278.out) hb);have n5_:=Aside0.mk (Kd.R_below (by (with_reducible repeat (first|apply Kd.R_alloc|apply Kd.R_drewN|apply Kd.R_drew));exact HO282.out) hb);have n6_:=Aside0.mk (Kd.R_lower (Kd.R_new' (Kd.R_new' ho0 (Kd.R_lt (by (with_reducible repeat (first|apply Kd.R_alloc|apply Kd.R_drewN|apply Kd.R_drew));exact HO264.out))) (Kd.R_lt (by (with_reducible repeat (first|apply Kd.R_alloc|apply Kd.R_drewN|apply Kd.R_drew));exact HO274.out))) (below_size (by repeat (first|(with_reducible first|exact HB.out|apply below_alloc|apply pw_below_drewN|apply below_drew1|refine below_set ?_ GE259.out|refine below_set ?_ GE279.out)|exact HB.out))));have n7_:=Aside0.mk (blk_below (g:=gb259) (o:=.cells #[.int .i64 a1_0,.slice A1_1 l1_1.length c1_1] 25 (0,0)) (by (with_reducible repeat (first|refine blk_drewN ?_ _|refine blk_drew ?_|refine blk_alloc ?_ _));exact BK259.out) hb);have n8_:=Aside0.mk (blk_below (g:=gb279) (o:=.cells #[.int .i64 t275,.slice Ao147 t276.length co147] 30 (0,0)) (by (with_reducible repeat (first|refine blk_drewN ?_ _|refine blk_drew ?_|refine blk_alloc ?_ _));exact BK279.out) hb);have n9_:=Aside0.mk (below_step (by repeat (first|(with_reducible first|exact HB.out|apply below_alloc|apply pw_below_drewN|apply below_drew1|refine below_set ?_ GE259.out|refine below_set ?_ GE279.out)|exact HB.out)) hb);clear HO264 HO268 HO271 HO274 HO278 HO282 BK259 BK279 HB;have HO264:=n0_;have HO268:=n1_;have HO271:=n2_;have HO274:=n3_;have HO278:=n4_;have HO282:=n5_;have HO286:=n6_;have BK259:=n7_;have BK279:=n8_;have HB:=n9_;clear n0_ n1_ n2_ n3_ n4_ n5_ n6_ n7_ n8_ n9_;(try clear hb);(try clear hb2);(try clear hk);(try clear hi);(try clear ho0);obtain ⟨Ao153,co153,eo153⟩:=Kd.R_slice HO286.out;subst eo153)|((with_reducible refine gate_callee (f:=22) rfl ?_);refine goesL_ (some 43) rfl rfl Tryd.func22 (by kernel_rfl) rfl #[.slice Ao148 t272.length co148,.slice Ao153 t284.length co153] rfl (by (try simp only [List.map_toArray,List.map_cons,List.map_nil]);first|done|rfl|(simp only [List.length_drop,List.length_take];rfl)) ?_;(with_reducible refine (laws_eqStringS.calls k _ _ t272 _ _ t284 false _ ?side1 ?side2 ?side3 ?side4 A20.out).mono ?_);(case side1 => repeat (first|exact (Kd.R_reads' HO274.out).2.2|(with_reducible first|refine Kd.C_alloc ?_ _|refine Kd.C_drewN ?_ _|refine Kd.C_drew ?_)));(case side2 => exact (Kd.R_reads' HO274.out).2.1);(case side3 => repeat (first|exact (Kd.R_reads' HO286.out).2.2|(with_reducible first|refine Kd.C_alloc ?_ _|refine Kd.C_drewN ?_ _|refine Kd.C_drew ?_)));(case side4 => exact (Kd.R_reads' HO286.out).2.1);rintro e w' ⟨rfl,⟨nd,rfl⟩⟩;refine ⟨_,rfl,?_⟩))
     go_ret
     exact ⟨by first|rfl|(simp [errW_none,errW_some] <;> rfl)|(simp [*,errW_none,errW_some] <;> rfl),by repeat (first|(with_reducible first|exact HB.out|apply below_alloc|apply pw_below_drewN|apply below_drew1|refine below_set ?_ GE259.out|refine below_set ?_ GE279.out)|exact HB.out)⟩
   ·replace c18:=Bool.eq_false_iff.mpr c18
    subst c18
    have H1 : (some false) = some r:=by rw [if_neg (show ¬ (false = true) by decide)] at H;exact H
    clear H
    have H:=H1
    clear H1
    obtain rfl:=Option.some.inj H
    go_enter Tryd.func4,Tryd.ntmps4
    try go_wp2_with (first|((with_reducible refine gate_dst (N:=3) rfl ?_);refine box_event ?hg (N:=3) ?hd (cs:=#[.int .i64 a1_0,.slice A1_1 l1_1.length c1_1]) (t:=25) ?hr ?_;(case hd => rfl);(case hg => rfl);(case hr => first|(go_simp;done)|(go_simp;rfl));intro gb259 hg w154 hbox hb;have n0_:=Aside0.mk (below_step (by repeat (first|(with_reducible first|exact HB.out|apply below_alloc|apply pw_below_drewN|apply below_drew1)|exact HB.out)) hb);have n1_:=Aside0.mk (hbox);have n2_:=Aside0.mk ((by rw [hg];exact (below_size (by repeat (first|(with_reducible first|exact HB.out|apply below_alloc|apply pw_below_drewN|apply below_drew1)|exact HB.out))) : w.heap.size ≤ gb259));have n3_:=Aside0.mk ((by rw [hg];exact (below_size (by repeat (first|(with_reducible first|exact HB.out|apply below_alloc|apply pw_below_drewN|apply below_drew1)|exact HB.out))) : w.heap.size ≤ gb259));clear HB;have HB:=n0_;have BK259:=n1_;have GW259:=n2_;have GE259:=n3_;clear n0_ n1_ n2_ n3_;clear hb hbox hg)|((with_reducible refine gate_callee (f:=16) rfl ?_);refine goesL_ (some 16) rfl rfl Tryd.func16 (by kernel_rfl) rfl #[.slice A0 l0.length c0,.int .i64 1048576] rfl (by (try simp only [List.map_toArray,List.map_cons,List.map_nil]);first|done|rfl|(simp only [List.length_drop,List.length_take];rfl)) ?_;(with_reducible refine (laws_szStringS.calls k _ _ l0 1048576 t260 _ ?side1 ?side2 A3.out).mono ?_);(case side1 => repeat (first|exact (Kd.C_below HR0.out HB.out)|(with_reducible first|refine Kd.C_alloc ?_ _|refine Kd.C_drewN ?_ _|refine Kd.C_drew ?_)));(case side2 => exact HC0.out);rintro e w' ⟨rfl,⟨nd,rfl⟩⟩;refine ⟨_,rfl,?_⟩;(try (rw [drewN_self w154];generalize hq_ : World.drewN w154 _ = w154;have n0_ : Aside0 (w154.heap[gb259]? = some (.cells #[.int .i64 a1_0,.slice A1_1 l1_1.length c1_1] 25 (0,0))):=⟨by rw [← hq_];exact (by (with_reducible repeat (first|refine blk_drewN ?_ _|refine blk_drew ?_|refine blk_alloc ?_ _));exact BK259.out)⟩;have n1_ : Aside0 (Below w.heap.size w w154):=⟨by rw [← hq_];exact (by repeat (first|(with_reducible first|exact HB.out|apply below_alloc|apply pw_below_drewN|apply below_drew1|refine below_set ?_ GE259.out)|exact HB.out))⟩;clear BK259 HB hq_;have BK259:=n0_;have HB:=n1_;clear n0_ n1_));have hcz155_0 : w154.cell? ⟨gb259,0,none⟩ = some (.int .i64 a1_0):=(blk_cell BK259.out 0).trans rfl;have hcz155_1 : w154.cell? ⟨gb259,1,none⟩ = some (.slice A1_1 l1_1.length c1_1):=(blk_cell BK259.out 1).trans rfl;have hfz155_0:=blk_frozen BK259.out 0;have hfz155_1:=blk_frozen BK259.out 1)|((with_reducible refine gate_callee (f:=17) rfl ?_);refine goesL_ (some 21) rfl rfl Tryd.func17 (by kernel_rfl) rfl #[.agg #[.int .i64 a1_0,.slice A1_1 l1_1.length c1_1],.int .i64 t260] rfl (by (try simp only [List.map_toArray,List.map_cons,List.map_nil]);first|done|rfl|(simp only [List.length_drop,List.length_take];rfl)) ?_;(with_reducible refine (laws_szNursery.calls a1_0 _ _ l1_1 t260 t261 _ ?side1 ?side2 A6.out).mono ?_);(case side1 => repeat (first|exact (Kd.C_below HR1_1.out HB.out)|(with_reducible first|refine Kd.C_alloc ?_ _|refine Kd.C_drewN ?_ _|refine Kd.C_drew ?_)));(case side2 => exact HC1_1.out);rintro e w156 ⟨rfl,hb⟩;refine ⟨_,rfl,?_⟩;have n0_:=Aside0.mk (blk_below (g:=gb259) (o:=.cells #[.int .i64 a1_0,.slice A1_1 l1_1.length c1_1] 25 (0,0)) (by (with_reducible repeat (first|refine blk_drewN ?_ _|refine blk_drew ?_|refine blk_alloc ?_ _));exact BK259.out) hb);have n1_:=Aside0.mk (below_step (by repeat (first|(with_reducible first|exact HB.out|apply below_alloc|apply pw_below_drewN|apply below_drew1|refine below_set ?_ GE259.out)|exact HB.out)) hb);clear BK259 HB;have BK259:=n0_;have HB:=n1_;clear n0_ n1_;(try clear hb);(try clear hb2);(try clear hk);(try clear hi)))
    have n0_:=Aside0.mk (blk_drew BK259.out)
    have n1_:=Aside0.mk (below_drew1 HB.out)
    clear BK259
    clear HB
    have BK259:=n0_
    have HB:=n1_
    clear n0_ n1_
    refine start_ (n:=6) (S:=fun w' => w'.cell? ⟨gb259,0,none⟩ = some (.int .i64 a1_0)∧w'.cell? ⟨gb259,1,none⟩ = some (.slice A1_1 l1_1.length c1_1)) (ds:=[]) #[false,false,false,false,false,false] (by kernel_rfl) rfl rfl ⟨(blk_cell BK259.out 0).trans rfl,(blk_cell BK259.out 1).trans rfl⟩ (fun hHeld => ?_)
    generalize w156.drew = w157 at BK259 HB hHeld ⊢
    refine pure_ (i:=0) (N:=some 24) (v:=?_) (a':=?_) #[true,false,false,false,false,false] rfl rfl (by kernel_rfl) (fun _ _ _ h => h) (Or.inl ⟨by rfl,?_⟩) ?_ ?_
    rotate_left
    ·intro w'
     go_simp
     with_reducible rfl
    rotate_left
    ·simp only [Act.put,List.setIfInBounds_toArray,List.set_cons_zero,List.set_cons_succ,i64_w,i32_w]
     rfl
    refine take_ (i:=2) (N:=some 26) (v:=?_) (a':=?_) #[true,false,true,false,false,false] rfl rfl (by kernel_rfl) (fun _ _ _ h => h) (Or.inl ⟨by rfl,?_⟩) hHeld ?_ ?_
    rotate_left
    ·rintro w' ⟨s0,s1⟩
     go_simp
     with_reducible rfl
    rotate_left
    ·simp only [Act.put,List.setIfInBounds_toArray,List.set_cons_zero,List.set_cons_succ,i64_w,i32_w]
     rfl
    refine one_ (i:=1) (N:=some 25) #[true,true,true,false,false,false] rfl rfl (by kernel_rfl) (by decide) (fun K hK => ?_)
    refine goes_ Tryd.func19 (by kernel_rfl) rfl #[.slice A0 l0.length c0] (by rfl) rfl rfl (by (try simp only [List.map_toArray,List.map_cons,List.map_nil]);first|done|rfl|(simp only [List.length_drop,List.length_take];rfl)) ?_
    with_reducible refine (laws_toStringS.calls k _ _ l0 t262 _ ?side1 ?side2 A11.out).mono ?_
    (case side1 => repeat (first|exact (Kd.C_below HR0.out HB.out)|(with_reducible first|refine Kd.C_alloc ?_ _|refine Kd.C_drewN ?_ _|refine Kd.C_drew ?_)))
    (case side2 => exact HC0.out)
    rintro e w158 ⟨v263,rfl,ho0,hb⟩
    refine ⟨_,rfl,?_⟩
    have n0_:=Aside0.mk (Kd.R_lower ho0 (below_size (by repeat (first|(with_reducible first|exact HB.out|apply below_alloc|apply pw_below_drewN|apply below_drew1|refine below_set ?_ GE259.out)|exact HB.out))))
    have n1_:=Aside0.mk (blk_below (g:=gb259) (o:=.cells #[.int .i64 a1_0,.slice A1_1 l1_1.length c1_1] 25 (0,0)) (by (with_reducible repeat (first|refine blk_drewN ?_ _|refine blk_drew ?_|refine blk_alloc ?_ _));exact BK259.out) hb)
    have n2_:=Aside0.mk (below_step (by repeat (first|(with_reducible first|exact HB.out|apply below_alloc|apply pw_below_drewN|apply below_drew1|refine below_set ?_ GE259.out)|exact HB.out)) hb)
    clear BK259
    clear HB
    have HO264:=n0_
    have BK259:=n1_
    have HB:=n2_
    clear n0_ n1_ n2_
    (try clear hb)
    (try clear hb2)
    (try clear hk)
    (try clear hi)
    (try clear ho0)
    refine hK.out _ _ ⟨(blk_cell BK259.out 0).trans rfl,(blk_cell BK259.out 1).trans rfl⟩ (fun hHeld => ?_)
    clear hK K
    refine norm_ (a':=?_) ?_ ?_
    rotate_left
    ·show Act.put _ (some 25) _ = _
     simp only [Act.put,List.setIfInBounds_toArray,List.set_cons_zero,List.set_cons_succ,i64_w,i32_w]
     rfl
    refine one_ (i:=3) (N:=some 27) #[true,true,true,true,false,false] rfl rfl (by kernel_rfl) (by decide) (fun K hK => ?_)
    refine goes_ Tryd.func20 (by kernel_rfl) rfl #[.agg #[.int .i64 a1_0,.slice A1_1 l1_1.length c1_1]] (by rfl) rfl rfl (by (try simp only [List.map_toArray,List.map_cons,List.map_nil]);first|done|rfl|(simp only [List.length_drop,List.length_take];rfl)) ?_
    with_reducible refine (laws_toNursery.calls k a1_0 _ _ l1_1 t265 t266 _ ?side1 ?side2 A12.out).mono ?_
    (case side1 => repeat (first|exact (Kd.C_below HR1_1.out HB.out)|(with_reducible first|refine Kd.C_alloc ?_ _|refine Kd.C_drewN ?_ _|refine Kd.C_drew ?_)))
    (case side2 => exact HC1_1.out)
    rintro e w159 ⟨v267,rfl,ho0,hb⟩
    refine ⟨_,rfl,?_⟩
    have n0_:=Aside0.mk (Kd.R_below (by (with_reducible repeat (first|apply Kd.R_alloc|apply Kd.R_drewN|apply Kd.R_drew));exact HO264.out) hb)
    have n1_:=Aside0.mk (Kd.R_lower ho0 (below_size (by repeat (first|(with_reducible first|exact HB.out|apply below_alloc|apply pw_below_drewN|apply below_drew1|refine below_set ?_ GE259.out)|exact HB.out))))
    have n2_:=Aside0.mk (blk_below (g:=gb259) (o:=.cells #[.int .i64 a1_0,.slice A1_1 l1_1.length c1_1] 25 (0,0)) (by (with_reducible repeat (first|refine blk_drewN ?_ _|refine blk_drew ?_|refine blk_alloc ?_ _));exact BK259.out) hb)
    have n3_:=Aside0.mk (below_step (by repeat (first|(with_reducible first|exact HB.out|apply below_alloc|apply pw_below_drewN|apply below_drew1|refine below_set ?_ GE259.out)|exact HB.out)) hb)
    clear HO264
    clear BK259
    clear HB
    have HO264:=n0_
    have HO268:=n1_
    have BK259:=n2_
    have HB:=n3_
    clear n0_ n1_ n2_ n3_
    (try clear hb)
    (try clear hb2)
    (try clear hk)
    (try clear hi)
    (try clear ho0)
    obtain ⟨Ao160,co160,eo160⟩:=Kd.R_slice HO264.out
    (first|subst eo160|(injection eo160 with f1_ f2_ f3_;have f4_:=f1_.symm;have f5_:=f3_.symm;clear f1_ f2_ f3_;subst f4_;subst f5_))
    obtain ⟨Ao161,co161,eo161⟩:=Kd.R_slice HO268.out
    (first|subst eo161|(injection eo161 with f1_ f2_ f3_;have f4_:=f1_.symm;have f5_:=f3_.symm;clear f1_ f2_ f3_;subst f4_;subst f5_))
    refine hK.out _ _ ⟨(blk_cell BK259.out 0).trans rfl,(blk_cell BK259.out 1).trans rfl⟩ (fun hHeld => ?_)
    clear hK K
    refine norm_ (a':=?_) ?_ ?_
    rotate_left
    ·show Act.put _ (some 27) _ = _
     simp only [Act.put,List.setIfInBounds_toArray,List.set_cons_zero,List.set_cons_succ,i64_w,i32_w]
     rfl
    refine one_ (i:=4) (N:=some 28) #[true,true,true,true,true,false] rfl rfl (by kernel_rfl) (by decide) (fun K hK => ?_)
    refine goes_ Tryd.func24 (by kernel_rfl) rfl #[.slice Ao160 t262.length co160,.agg #[.int .i64 t265,.slice Ao161 t266.length co161]] (by rfl) rfl rfl (by (try simp only [List.map_toArray,List.map_cons,List.map_nil]);first|done|rfl|(simp only [List.length_drop,List.length_take];rfl)) ?_
    with_reducible refine (spec_Starts.calls k _ _ t262 t265 _ _ t266 t269 _ ?side1 ?side2 ?side3 ?side4 A13.out).mono ?_
    (case side1 => repeat (first|exact (Kd.R_reads' HO264.out).2.2|(with_reducible first|refine Kd.C_alloc ?_ _|refine Kd.C_drewN ?_ _|refine Kd.C_drew ?_)))
    (case side2 => exact (Kd.R_reads' HO264.out).2.1)
    (case side3 => repeat (first|exact (Kd.R_reads' HO268.out).2.2|(with_reducible first|refine Kd.C_alloc ?_ _|refine Kd.C_drewN ?_ _|refine Kd.C_drew ?_)))
    (case side4 => exact (Kd.R_reads' HO268.out).2.1)
    rintro e w162 ⟨v270,rfl,ho0,hb⟩
    refine ⟨_,rfl,?_⟩
    have n0_:=Aside0.mk (Kd.R_below (by (with_reducible repeat (first|apply Kd.R_alloc|apply Kd.R_drewN|apply Kd.R_drew));exact HO264.out) hb)
    have n1_:=Aside0.mk (Kd.R_elder' (by (with_reducible repeat (first|apply Kd.R_alloc|apply Kd.R_drewN|apply Kd.R_drew));exact HO268.out) (Kd.R_base ho0) hb)
    have n2_:=Aside0.mk (Kd.R_lower (Kd.R_new' ho0 (Kd.R_lt (by (with_reducible repeat (first|apply Kd.R_alloc|apply Kd.R_drewN|apply Kd.R_drew));exact HO268.out))) (below_size (by repeat (first|(with_reducible first|exact HB.out|apply below_alloc|apply pw_below_drewN|apply below_drew1|refine below_set ?_ GE259.out)|exact HB.out))))
    have n3_:=Aside0.mk (blk_below (g:=gb259) (o:=.cells #[.int .i64 a1_0,.slice A1_1 l1_1.length c1_1] 25 (0,0)) (by (with_reducible repeat (first|refine blk_drewN ?_ _|refine blk_drew ?_|refine blk_alloc ?_ _));exact BK259.out) hb)
    have n4_:=Aside0.mk (below_step (by repeat (first|(with_reducible first|exact HB.out|apply below_alloc|apply pw_below_drewN|apply below_drew1|refine below_set ?_ GE259.out)|exact HB.out)) hb)
    clear HO264
    clear HO268
    clear BK259
    clear HB
    have HO264:=n0_
    have HO268:=n1_
    have HO271:=n2_
    have BK259:=n3_
    have HB:=n4_
    clear n0_ n1_ n2_ n3_ n4_
    (try clear hb)
    (try clear hb2)
    (try clear hk)
    (try clear hi)
    (try clear ho0)
    refine hK.out _ _ ⟨(blk_cell BK259.out 0).trans rfl,(blk_cell BK259.out 1).trans rfl⟩ (fun hHeld => ?_)
    clear hK K
    refine norm_ (a':=?_) ?_ ?_
    rotate_left
    ·show Act.put _ (some 28) _ = _
     simp only [Act.put,List.setIfInBounds_toArray,List.set_cons_zero,List.set_cons_succ,i64_w,i32_w]
     rfl
    refine pure_ (i:=5) (N:=some 6) (v:=?_) (a':=?_) #[true,true,true,true,true,true] rfl rfl (by kernel_rfl) (fun _ _ _ h => h) (Or.inl ⟨by rfl,?_⟩) ?_ ?_
    rotate_left
    ·intro w'
     go_simp
     with_reducible rfl
    rotate_left
    ·simp only [Act.put,List.setIfInBounds_toArray,List.set_cons_zero,List.set_cons_succ,i64_w,i32_w]
     rfl
    refine done_ (by kernel_rfl) ?_
    try go_wp2_with (first|((with_reducible refine gate_callee (f:=19) rfl ?_);refine goesL_ (some 30) rfl rfl Tryd.func19 (by kernel_rfl) rfl #[.slice A0 l0.length c0] rfl (by (try simp only [List.map_toArray,List.map_cons,List.map_nil]);first|done|rfl|(simp only [List.length_drop,List.length_take];rfl)) ?_;(with_reducible refine (laws_toStringS.calls k _ _ l0 t272 _ ?side1 ?side2 A14.out).mono ?_);(case side1 => repeat (first|exact (Kd.C_below HR0.out HB.out)|(with_reducible first|refine Kd.C_alloc ?_ _|refine Kd.C_drewN ?_ _|refine Kd.C_drew ?_)));(case side2 => exact HC0.out);rintro e w163 ⟨v273,rfl,ho0,hb⟩;refine ⟨_,rfl,?_⟩;have n0_:=Aside0.mk (Kd.R_elder' (by (with_reducible repeat (first|apply Kd.R_alloc|apply Kd.R_drewN|apply Kd.R_drew));exact HO264.out) (Kd.R_base ho0) hb);have n1_:=Aside0.mk (Kd.R_below (by (with_reducible repeat (first|apply Kd.R_alloc|apply Kd.R_drewN|apply Kd.R_drew));exact HO268.out) hb);have n2_:=Aside0.mk (Kd.R_below (by (with_reducible repeat (first|apply Kd.R_alloc|apply Kd.R_drewN|apply Kd.R_drew));exact HO271.out) hb);have n3_:=Aside0.mk (Kd.R_lower (Kd.R_new' ho0 (Kd.R_lt (by (with_reducible repeat (first|apply Kd.R_alloc|apply Kd.R_drewN|apply Kd.R_drew));exact HO264.out))) (below_size (by repeat (first|(with_reducible first|exact HB.out|apply below_alloc|apply pw_below_drewN|apply below_drew1|refine below_set ?_ GE259.out)|exact HB.out))));have n4_:=Aside0.mk (blk_below (g:=gb259) (o:=.cells #[.int .i64 a1_0,.slice A1_1 l1_1.length c1_1] 25 (0,0)) (by (with_reducible repeat (first|refine blk_drewN ?_ _|refine blk_drew ?_|refine blk_alloc ?_ _));exact BK259.out) hb);have n5_:=Aside0.mk (below_step (by repeat (first|(with_reducible first|exact HB.out|apply below_alloc|apply pw_below_drewN|apply below_drew1|refine below_set ?_ GE259.out)|exact HB.out)) hb);clear HO264 HO268 HO271 BK259 HB;have HO264:=n0_;have HO268:=n1_;have HO271:=n2_;have HO274:=n3_;have BK259:=n4_;have HB:=n5_;clear n0_ n1_ n2_ n3_ n4_ n5_;(try clear hb);(try clear hb2);(try clear hk);(try clear hi);(try clear ho0);have hcz164_0 : w163.cell? ⟨gb259,0,none⟩ = some (.int .i64 a1_0):=(blk_cell BK259.out 0).trans rfl;have hcz164_1 : w163.cell? ⟨gb259,1,none⟩ = some (.slice A1_1 l1_1.length c1_1):=(blk_cell BK259.out 1).trans rfl;have hfz164_0:=blk_frozen BK259.out 0;have hfz164_1:=blk_frozen BK259.out 1)|((with_reducible refine gate_callee (f:=20) rfl ?_);refine goesL_ (some 32) rfl rfl Tryd.func20 (by kernel_rfl) rfl #[.agg #[.int .i64 a1_0,.slice A1_1 l1_1.length c1_1]] rfl (by (try simp only [List.map_toArray,List.map_cons,List.map_nil]);first|done|rfl|(simp only [List.length_drop,List.length_take];rfl)) ?_;(with_reducible refine (laws_toNursery.calls k a1_0 _ _ l1_1 t275 t276 _ ?side1 ?side2 A15.out).mono ?_);(case side1 => repeat (first|exact (Kd.C_below HR1_1.out HB.out)|(with_reducible first|refine Kd.C_alloc ?_ _|refine Kd.C_drewN ?_ _|refine Kd.C_drew ?_)));(case side2 => exact HC1_1.out);rintro e w165 ⟨v277,rfl,ho0,hb⟩;refine ⟨_,rfl,?_⟩;have n0_:=Aside0.mk (Kd.R_below (by (with_reducible repeat (first|apply Kd.R_alloc|apply Kd.R_drewN|apply Kd.R_drew));exact HO264.out) hb);have n1_:=Aside0.mk (Kd.R_elder' (by (with_reducible repeat (first|apply Kd.R_alloc|apply Kd.R_drewN|apply Kd.R_drew));exact HO268.out) (Kd.R_base ho0) hb);have n2_:=Aside0.mk (Kd.R_elder' (by (with_reducible repeat (first|apply Kd.R_alloc|apply Kd.R_drewN|apply Kd.R_drew));exact HO271.out) (Kd.R_base ho0) hb);have n3_:=Aside0.mk (Kd.R_below (by (with_reducible repeat (first|apply Kd.R_alloc|apply Kd.R_drewN|apply Kd.R_drew));exact HO274.out) hb);have n4_:=Aside0.mk (Kd.R_lower (Kd.R_new' (Kd.R_new' ho0 (Kd.R_lt (by (with_reducible repeat (first|apply Kd.R_alloc|apply Kd.R_drewN|apply Kd.R_drew));exact HO268.out))) (Kd.R_lt (by (with_reducible repeat (first|apply Kd.R_alloc|apply Kd.R_drewN|apply Kd.R_drew));exact HO271.out))) (below_size (by repeat (first|(with_reducible first|exact HB.out|apply below_alloc|apply pw_below_drewN|apply below_drew1|refine below_set ?_ GE259.out)|exact HB.out))));have n5_:=Aside0.mk (blk_below (g:=gb259) (o:=.cells #[.int .i64 a1_0,.slice A1_1 l1_1.length c1_1] 25 (0,0)) (by (with_reducible repeat (first|refine blk_drewN ?_ _|refine blk_drew ?_|refine blk_alloc ?_ _));exact BK259.out) hb);have n6_:=Aside0.mk (below_step (by repeat (first|(with_reducible first|exact HB.out|apply below_alloc|apply pw_below_drewN|apply below_drew1|refine below_set ?_ GE259.out)|exact HB.out)) hb);clear HO264 HO268 HO271 HO274 BK259 HB;have HO264:=n0_;have HO268:=n1_;have HO271:=n2_;have HO274:=n3_;have HO278:=n4_;have BK259:=n5_;have HB:=n6_;clear n0_ n1_ n2_ n3_ n4_ n5_ n6_;(try clear hb);(try clear hb2);(try clear hk);(try clear hi);(try clear ho0))|((with_reducible refine gate_dst (N:=8) rfl ?_);refine box_event ?hg (N:=8) ?hd (cs:=#[.int .i64 0,.slice none 0 0]) (t:=30) ?hr ?_;(case hd => rfl);(case hg => rfl);(case hr => first|(go_simp;done)|(go_simp;rfl));intro gb279 hg w166 hbox hb;have n0_:=Aside0.mk (Kd.R_below (by (with_reducible repeat (first|apply Kd.R_alloc|apply Kd.R_drewN|apply Kd.R_drew));exact HO264.out) hb);have n1_:=Aside0.mk (Kd.R_below (by (with_reducible repeat (first|apply Kd.R_alloc|apply Kd.R_drewN|apply Kd.R_drew));exact HO268.out) hb);have n2_:=Aside0.mk (Kd.R_below (by (with_reducible repeat (first|apply Kd.R_alloc|apply Kd.R_drewN|apply Kd.R_drew));exact HO271.out) hb);have n3_:=Aside0.mk (Kd.R_below (by (with_reducible repeat (first|apply Kd.R_alloc|apply Kd.R_drewN|apply Kd.R_drew));exact HO274.out) hb);have n4_:=Aside0.mk (Kd.R_below (by (with_reducible repeat (first|apply Kd.R_alloc|apply Kd.R_drewN|apply Kd.R_drew));exact HO278.out) hb);have n5_:=Aside0.mk (blk_below (g:=gb259) (o:=.cells #[.int .i64 a1_0,.slice A1_1 l1_1.length c1_1] 25 (0,0)) (by (with_reducible repeat (first|refine blk_drewN ?_ _|refine blk_drew ?_|refine blk_alloc ?_ _));exact BK259.out) hb);have n6_:=Aside0.mk (below_step (by repeat (first|(with_reducible first|exact HB.out|apply below_alloc|apply pw_below_drewN|apply below_drew1|refine below_set ?_ GE259.out)|exact HB.out)) hb);have n7_:=Aside0.mk (hbox);have n8_:=Aside0.mk ((by rw [hg];exact (below_size (by repeat (first|(with_reducible first|exact HB.out|apply below_alloc|apply pw_below_drewN|apply below_drew1|refine below_set ?_ GE259.out)|exact HB.out))) : w.heap.size ≤ gb279));have n9_:=Aside0.mk ((by rw [hg];exact (below_size (by repeat (first|(with_reducible first|exact HB.out|apply below_alloc|apply pw_below_drewN|apply below_drew1|refine below_set ?_ GE259.out)|exact HB.out))) : w.heap.size ≤ gb279));have n10_:=Aside0.mk ((by rw [hg];exact Nat.ne_of_lt (blk_lt (g:=gb259) (o:=.cells #[.int .i64 a1_0,.slice A1_1 l1_1.length c1_1] 25 (0,0)) (by (with_reducible repeat (first|refine blk_drewN ?_ _|refine blk_drew ?_|refine blk_alloc ?_ _));exact BK259.out)) : gb259≠gb279));have n11_:=Aside0.mk ((by rw [hg];exact Nat.ne_of_gt (blk_lt (g:=gb259) (o:=.cells #[.int .i64 a1_0,.slice A1_1 l1_1.length c1_1] 25 (0,0)) (by (with_reducible repeat (first|refine blk_drewN ?_ _|refine blk_drew ?_|refine blk_alloc ?_ _));exact BK259.out)) : gb279≠gb259));clear HO264 HO268 HO271 HO274 HO278 BK259 HB;have HO264:=n0_;have HO268:=n1_;have HO271:=n2_;have HO274:=n3_;have HO278:=n4_;have BK259:=n5_;have HB:=n6_;have BK279:=n7_;have GW279:=n8_;have GE279:=n9_;have NB259_279:=n10_;have NB279_259:=n11_;clear n0_ n1_ n2_ n3_ n4_ n5_ n6_ n7_ n8_ n9_ n10_ n11_;clear hb hbox hg;have hnb167:=NB279_259.out;have hnc167:=NB259_279.out;have hcz168_0 : w166.cell? ⟨gb279,0,none⟩ = some (.int .i64 0):=(blk_cell BK279.out 0).trans rfl;have hcz168_1 : w166.cell? ⟨gb279,1,none⟩ = some (.slice none 0 0):=(blk_cell BK279.out 1).trans rfl;have hfz168_0:=blk_frozen BK279.out 0;have hfz168_1:=blk_frozen BK279.out 1;obtain ⟨Ao169,co169,eo169⟩:=Kd.R_slice HO278.out;subst eo169;obtain ⟨Ao170,co170,eo170⟩:=Kd.R_slice HO274.out;subst eo170)|((with_reducible refine gate_callee (f:=25) rfl ?_);refine goesL_ (some 35) rfl rfl Tryd.func25 (by kernel_rfl) rfl #[.slice Ao170 t272.length co170,.agg #[.int .i64 t275,.slice Ao169 t276.length co169]] rfl (by (try simp only [List.map_toArray,List.map_cons,List.map_nil]);first|done|rfl|(simp only [List.length_drop,List.length_take];rfl)) ?_;(with_reducible refine (impl_Starts.calls k _ _ t272 t275 _ _ t276 t280 _ ?side1 ?side2 ?side3 ?side4 A16.out).mono ?_);(case side1 => refine (Kd.R_reads' (e:=9) (base:=w.heap.size) (ok:=fun k_ => (True∧some k_≠(.slice Ao160 t262.length co160 : Value).ownBlock)) (n:=t272.length) (c:=co170) ?_).2.2;exact (by (with_reducible repeat (first|apply Kd.R_alloc|apply Kd.R_drewN|apply Kd.R_drew));exact (Kd.R_mono (Kd.R_far (p:=⟨gb279,1,none⟩) (Kd.R_far (p:=⟨gb279,0,none⟩) (Kd.R_types HO274.out BK279.out (by decide)) (fun _ hk => hk.2) (.int .i64 t275)) (fun _ hk => hk.2) (.slice Ao169 t276.length co169)) (fun _ h_ => h_.1))));(case side2 => exact (Kd.R_reads' HO274.out).2.1);(case side3 => refine (Kd.R_reads' (e:=2) (base:=w.heap.size) (ok:=fun k_ => ((True∧some k_≠(.slice Ao161 t266.length co161 : Value).ownBlock)∧some k_≠(v270 : Value).ownBlock)) (n:=t276.length) (c:=co169) ?_).2.2;exact (by (with_reducible repeat (first|apply Kd.R_alloc|apply Kd.R_drewN|apply Kd.R_drew));exact (Kd.R_mono (Kd.R_far (p:=⟨gb279,1,none⟩) (Kd.R_far (p:=⟨gb279,0,none⟩) (Kd.R_types HO278.out BK279.out (by decide)) (fun _ hk => hk.2) (.int .i64 t275)) (fun _ hk => hk.2) (.slice Ao169 t276.length co169)) (fun _ h_ => h_.1))));(case side4 => exact (Kd.R_reads' HO278.out).2.1);rintro e w171 ⟨v281,rfl,ho0,hb⟩;refine ⟨_,rfl,?_⟩;have n0_:=Aside0.mk (Kd.R_below (by (with_reducible repeat (first|apply Kd.R_alloc|apply Kd.R_drewN|apply Kd.R_drew));exact (Kd.R_mono (Kd.R_far (p:=⟨gb279,1,none⟩) (Kd.R_far (p:=⟨gb279,0,none⟩) (Kd.R_types HO264.out BK279.out (by decide)) (fun _ hk => hk.2) (.int .i64 t275)) (fun _ hk => hk.2) (.slice Ao169 t276.length co169)) (fun _ h_ => h_.1))) hb);have n1_:=Aside0.mk (Kd.R_elder' (by (with_reducible repeat (first|apply Kd.R_alloc|apply Kd.R_drewN|apply Kd.R_drew));exact (Kd.R_mono (Kd.R_far (p:=⟨gb279,1,none⟩) (Kd.R_far (p:=⟨gb279,0,none⟩) (Kd.R_types HO268.out BK279.out (by decide)) (fun _ hk => hk.2) (.int .i64 t275)) (fun _ hk => hk.2) (.slice Ao169 t276.length co169)) (fun _ h_ => h_.1))) (Kd.R_base ho0) hb);have n2_:=Aside0.mk (Kd.R_elder' (by (with_reducible repeat (first|apply Kd.R_alloc|apply Kd.R_drewN|apply Kd.R_drew));exact (Kd.R_mono (Kd.R_far (p:=⟨gb279,1,none⟩) (Kd.R_far (p:=⟨gb279,0,none⟩) (Kd.R_types HO271.out BK279.out (by decide)) (fun _ hk => hk.2) (.int .i64 t275)) (fun _ hk => hk.2) (.slice Ao169 t276.length co169)) (fun _ h_ => h_.1))) (Kd.R_base ho0) hb);have n3_:=Aside0.mk (Kd.R_below (by (with_reducible repeat (first|apply Kd.R_alloc|apply Kd.R_drewN|apply Kd.R_drew));exact (Kd.R_mono (Kd.R_far (p:=⟨gb279,1,none⟩) (Kd.R_far (p:=⟨gb279,0,none⟩) (Kd.R_types HO274.out BK279.out (by decide)) (fun _ hk => hk.2) (.int .i64 t275)) (fun _ hk => hk.2) (.slice Ao169 t276.length co169)) (fun _ h_ => h_.1))) hb);have n4_:=Aside0.mk (Kd.R_elder' (by (with_reducible repeat (first|apply Kd.R_alloc|apply Kd.R_drewN|apply Kd.R_drew));exact (Kd.R_mono (Kd.R_far (p:=⟨gb279,1,none⟩) (Kd.R_far (p:=⟨gb279,0,none⟩) (Kd.R_types HO278.out BK279.out (by decide)) (fun _ hk => hk.2) (.int .i64 t275)) (fun _ hk => hk.2) (.slice Ao169 t276.length co169)) (fun _ h_ => h_.1))) (Kd.R_base ho0) hb);have n5_:=Aside0.mk (Kd.R_lower (Kd.R_new' (Kd.R_new' (Kd.R_new' ho0 (Kd.R_lt (by (with_reducible repeat (first|apply Kd.R_alloc|apply Kd.R_drewN|apply Kd.R_drew));exact (Kd.R_mono (Kd.R_far (p:=⟨gb279,1,none⟩) (Kd.R_far (p:=⟨gb279,0,none⟩) (Kd.R_types HO268.out BK279.out (by decide)) (fun _ hk => hk.2) (.int .i64 t275)) (fun _ hk => hk.2) (.slice Ao169 t276.length co169)) (fun _ h_ => h_.1))))) (Kd.R_lt (by (with_reducible repeat (first|apply Kd.R_alloc|apply Kd.R_drewN|apply Kd.R_drew));exact (Kd.R_mono (Kd.R_far (p:=⟨gb279,1,none⟩) (Kd.R_far (p:=⟨gb279,0,none⟩) (Kd.R_types HO271.out BK279.out (by decide)) (fun _ hk => hk.2) (.int .i64 t275)) (fun _ hk => hk.2) (.slice Ao169 t276.length co169)) (fun _ h_ => h_.1))))) (Kd.R_lt (by (with_reducible repeat (first|apply Kd.R_alloc|apply Kd.R_drewN|apply Kd.R_drew));exact (Kd.R_mono (Kd.R_far (p:=⟨gb279,1,none⟩) (Kd.R_far (p:=⟨gb279,0,none⟩) (Kd.R_types HO278.out BK279.out (by decide)) (fun _ hk => hk.2) (.int .i64 t275)) (fun _ hk => hk.2) (.slice Ao169 t276.length co169)) (fun _ h_ => h_.1))))) (below_size (by repeat (first|(with_reducible first|exact HB.out|apply below_alloc|apply pw_below_drewN|apply below_drew1|refine below_set ?_ GE259.out|refine below_set ?_ GE279.out)|exact HB.out))));have n6_:=Aside0.mk (blk_below (g:=gb259) (o:=.cells #[.int .i64 a1_0,.slice A1_1 l1_1.length c1_1] 25 (0,0)) (by (with_reducible repeat (first|refine blk_drewN ?_ _|refine blk_drew ?_|refine blk_alloc ?_ _));refine blk_far ?_ NB259_279.out _;(with_reducible repeat (first|refine blk_drewN ?_ _|refine blk_drew ?_|refine blk_alloc ?_ _));refine blk_far ?_ NB259_279.out _;(with_reducible repeat (first|refine blk_drewN ?_ _|refine blk_drew ?_|refine blk_alloc ?_ _));exact BK259.out) hb);have n7_:=Aside0.mk (blk_below (g:=gb279) (o:=.cells #[.int .i64 t275,.slice Ao169 t276.length co169] 30 (0,0)) (by (with_reducible repeat (first|refine blk_drewN ?_ _|refine blk_drew ?_|refine blk_alloc ?_ _));refine blk_put (cs:=#[.int .i64 t275,.slice none 0 0]) ?_ 1 _ rfl;(with_reducible repeat (first|refine blk_drewN ?_ _|refine blk_drew ?_|refine blk_alloc ?_ _));refine blk_put (cs:=#[.int .i64 0,.slice none 0 0]) ?_ 0 _ rfl;(with_reducible repeat (first|refine blk_drewN ?_ _|refine blk_drew ?_|refine blk_alloc ?_ _));exact BK279.out) hb);have n8_:=Aside0.mk (below_step (by repeat (first|(with_reducible first|exact HB.out|apply below_alloc|apply pw_below_drewN|apply below_drew1|refine below_set ?_ GE259.out|refine below_set ?_ GE279.out)|exact HB.out)) hb);clear HO264 HO268 HO271 HO274 HO278 BK259 BK279 HB;have HO264:=n0_;have HO268:=n1_;have HO271:=n2_;have HO274:=n3_;have HO278:=n4_;have HO282:=n5_;have BK259:=n6_;have BK279:=n7_;have HB:=n8_;clear n0_ n1_ n2_ n3_ n4_ n5_ n6_ n7_ n8_;(try clear hb);(try clear hb2);(try clear hk);(try clear hi);(try clear ho0);obtain ⟨Ao172,co172,eo172⟩:=Kd.R_slice HO282.out;subst eo172;obtain ⟨Ao173,co173,eo173⟩:=Kd.R_slice HO271.out;subst eo173)|((with_reducible refine gate_callee (f:=26) rfl ?_);refine goesL_ (some 38) rfl rfl Tryd.func26 (by kernel_rfl) rfl #[.slice Ao172 t280.length co172,.slice Ao173 t269.length co173] rfl (by (try simp only [List.map_toArray,List.map_cons,List.map_nil]);first|done|rfl|(simp only [List.length_drop,List.length_take];rfl)) ?_;(with_reducible refine (laws_eqInt64S.calls k _ _ t280 _ _ t269 false _ ?side1 ?side2 ?side3 ?side4 A17.out).mono ?_);(case side1 => repeat (first|exact (Kd.R_reads' HO282.out).2.2|(with_reducible first|refine Kd.C_alloc ?_ _|refine Kd.C_drewN ?_ _|refine Kd.C_drew ?_)));(case side2 => exact (Kd.R_reads' HO282.out).2.1);(case side3 => repeat (first|exact (Kd.R_reads' HO271.out).2.2|(with_reducible first|refine Kd.C_alloc ?_ _|refine Kd.C_drewN ?_ _|refine Kd.C_drew ?_)));(case side4 => exact (Kd.R_reads' HO271.out).2.1);rintro e w' ⟨rfl,⟨nd,rfl⟩⟩;refine ⟨_,rfl,?_⟩))
    go_ret
    exact ⟨by first|rfl|(simp [errW_none,errW_some] <;> rfl)|(simp [*,errW_none,errW_some] <;> rfl),by repeat (first|(with_reducible first|exact HB.out|apply below_alloc|apply pw_below_drewN|apply below_drew1|refine below_set ?_ GE259.out|refine below_set ?_ GE279.out)|exact HB.out)⟩

end Go.Proofs.YtgfeafcgpeclcaaDoor.X
