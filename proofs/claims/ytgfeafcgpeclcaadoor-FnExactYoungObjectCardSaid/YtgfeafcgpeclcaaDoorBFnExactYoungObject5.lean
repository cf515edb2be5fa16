/- Texts of this claim. (Merged out of this claim's own texts.) -/
import Derived.Test.YtgfeafcgpeclcaaDoorBFnExactYoungObject4
namespace Go.Proofs.YtgfeafcgpeclcaaDoor.X
open Go.RowKit Go.Proofs.YtgfeafcgpeclcaaDoorW.PrintWords Go.Proofs.YtgfeafcgpeclcaaDoorW.PrintLast Go.Proofs.YtgfeafcgpeclcaaDoorW.PrintMore
attribute [local go_sem] max2_int min2_int max_two min_two max_three min_three max_four min_four   -- for this text's walks alone
set_option linter.unusedVariables false
set_option linter.unusedSimpArgs false

set_option maxHeartbeats 8000000 in
set_option maxRecDepth 100000 in
theorem laws_FnExactYoungObject.calls (k : Nat) (A0 : Option Addr) (c0 : Nat) (l0 : List ByteArray) (a1_0 : Int) (A1_1 : Option Addr) (c1_1 : Nat) (l1_1 : List Int) (a2 : Int) (r : Bool) (w : World) (hr0 : Kd.C Kd.string w A0 l0.length l0) (hc0 : l0.length ≤ c0) (hr1_1 : Kd.C (Kd.int .i64) w A1_1 l1_1.length l1_1) (hc1_1 : l1_1.length ≤ c1_1) (h : laws_FnExactYoungObject.f k l0 a1_0 l1_1 a2 = some r) :
  Calls Tryd.prog 6 #[.slice A0 l0.length c0,.agg #[.int .i64 a1_0,.slice A1_1 l1_1.length c1_1],.int .i64 a2] w fun e w' => e = .returned (.bool r)∧Below w.heap.size w w':=by
 have hu25:=Tryd.underlying25
 have hu40:=Tryd.underlying40
 have hu30:=Tryd.underlying30
 have HR0:=am hr0
 have HC0:=am hc0
 clear hr0 hc0
 have HR1_1:=am hr1_1
 have HC1_1:=am hc1_1
 clear hr1_1 hc1_1
 have HB:=am (Below.refl w.heap.size w)
 have H : ((laws_szStringS.f k l0 1048576).bind fun t434 => (if t434 < 0 then (some true) else ((laws_szNursery.f a1_0 l1_1 t434).bind fun t435 => (if t435 < 0 then (some true) else ((laws_toStringS.f k l0).bind fun t436 => ((laws_toNursery.f k a1_0 l1_1).bind fun bt439 => ((spec_YoungObject.f k t436 bt439.1 bt439.2 a2).bind fun bt443 => ((laws_toStringS.f k l0).bind fun t449 => ((laws_toNursery.f k a1_0 l1_1).bind fun bt452 => ((impl_YoungObject.f k t449 bt452.1 bt452.2 a2).bind fun bt457 => ((laws_eqObj.f k bt457.1 bt457.2.1 bt443.1 bt443.2.1).bind fun t463 => (if t463 = true then (laws_FnExactYoungObject.j0 k l0 a2 bt443.2.2 t449 bt457.2.2 (bt457.2.2 != bt443.2.2) a1_0 l1_1 bt443.1 bt443.2.1 bt452.1 bt452.2 bt457.1 bt457.2.1) else (laws_FnExactYoungObject.j0 k l0 a2 bt443.2.2 t449 bt457.2.2 true a1_0 l1_1 bt443.1 bt443.2.1 bt452.1 bt452.2 bt457.1 bt457.2.1))))))))))))) = some r:=h
 clear h
 replace H:=Option.bind_eq_some_iff.mp H
 obtain ⟨t434,A40,H⟩:=H
 replace H : (if t434 < 0 then (some true) else ((laws_szNursery.f a1_0 l1_1 t434).bind fun t435 => (if t435 < 0 then (some true) else ((laws_toStringS.f k l0).bind fun t436 => ((laws_toNursery.f k a1_0 l1_1).bind fun bt439 => ((spec_YoungObject.f k t436 bt439.1 bt439.2 a2).bind fun bt443 => ((laws_toStringS.f k l0).bind fun t449 => ((laws_toNursery.f k a1_0 l1_1).bind fun bt452 => ((impl_YoungObject.f k t449 bt452.1 bt452.2 a2).bind fun bt457 => ((laws_eqObj.f k bt457.1 bt457.2.1 bt443.1 bt443.2.1).bind fun t463 => (if t463 = true then (laws_FnExactYoungObject.j0 k l0 a2 bt443.2.2 t449 bt457.2.2 (bt457.2.2 != bt443.2.2) a1_0 l1_1 bt443.1 bt443.2.1 bt452.1 bt452.2 bt457.1 bt457.2.1) else (laws_FnExactYoungObject.j0 k l0 a2 bt443.2.2 t449 bt457.2.2 true a1_0 l1_1 bt443.1 bt443.2.1 bt452.1 bt452.2 bt457.1 bt457.2.1)))))))))))) = some r:=H
 have A4:=am A40
 clear A40
 by_cases c5 : t434 < 0
 ·rw [if_pos c5] at H
  have c5b0 : decide (t434 < 0) = true:=decide_eq_true c5
  clear c5
  obtain rfl:=Option.some.inj H
  go_enter Tryd.func6,Tryd.ntmps6
  go_wp2_with (first|((with_reducible refine gate_dst (N:=4) rfl ?_);refine box_event ?hg (N:=4) ?hd (cs:=#[.int .i64 a1_0,.slice A1_1 l1_1.length c1_1]) (t:=25) ?hr ?_;(case hd => rfl);(case hg => rfl);(case hr => first|(go_simp;done)|(go_simp;rfl));intro gb433 hg w6 hbox hb;have n0_:=am (below_step (lup HB.out) hb);have n1_:=am (hbox);have n2_:=am ((by rw [hg];exact (below_size (lup HB.out)) : w.heap.size ≤ gb433));have n3_:=am ((by rw [hg];exact (below_size (lup HB.out)) : w.heap.size ≤ gb433));clear HB;have HB:=n0_;have BK433:=n1_;have GW433:=n2_;have GE433:=n3_;clear n0_ n1_ n2_ n3_;clear hb hbox hg)|((with_reducible refine gate_callee (f:=16) rfl ?_);refine goesL_ (some 21) rfl rfl Tryd.func16 (by kernel_rfl) rfl #[.slice A0 l0.length c0,.int .i64 1048576] rfl (by (try simp only [List.map_toArray,List.map_cons,List.map_nil]);first|done|rfl|(simp only [List.length_drop,List.length_take];rfl)) ?_;(with_reducible refine (laws_szStringS.calls k _ _ l0 1048576 t434 _ ?side1 ?side2 A4.out).mono ?_);(case side1 => repeat (first|exact (Kd.C_below HR0.out HB.out)|(with_reducible first|refine Kd.C_alloc ?_ _|refine Kd.C_drewN ?_ _|refine Kd.C_drew ?_)));(case side2 => exact HC0.out);rintro e w' ⟨rfl,⟨nd,rfl⟩⟩;refine ⟨_,rfl,?_⟩))
  go_ret
  exact ⟨by first|rfl|(simp [errW_none,errW_some] <;> rfl)|(simp [*,errW_none,errW_some] <;> rfl),by repeat (first|(with_reducible first|exact HB.out|apply below_alloc|apply pw_below_drewN|apply below_drew1|refine below_set ?_ GE433.out)|exact HB.out)⟩
 ·rw [if_neg c5] at H
  have c5b0 : decide (t434 < 0) = false:=decide_eq_false c5
  clear c5
  replace H:=Option.bind_eq_some_iff.mp H
  obtain ⟨t435,A70,H⟩:=H
  replace H : (if t435 < 0 then (some true) else ((laws_toStringS.f k l0).bind fun t436 => ((laws_toNursery.f k a1_0 l1_1).bind fun bt439 => ((spec_YoungObject.f k t436 bt439.1 bt439.2 a2).bind fun bt443 => ((laws_toStringS.f k l0).bind fun t449 => ((laws_toNursery.f k a1_0 l1_1).bind fun bt452 => ((impl_YoungObject.f k t449 bt452.1 bt452.2 a2).bind fun bt457 => ((laws_eqObj.f k bt457.1 bt457.2.1 bt443.1 bt443.2.1).bind fun t463 => (if t463 = true then (laws_FnExactYoungObject.j0 k l0 a2 bt443.2.2 t449 bt457.2.2 (bt457.2.2 != bt443.2.2) a1_0 l1_1 bt443.1 bt443.2.1 bt452.1 bt452.2 bt457.1 bt457.2.1) else (laws_FnExactYoungObject.j0 k l0 a2 bt443.2.2 t449 bt457.2.2 true a1_0 l1_1 bt443.1 bt443.2.1 bt452.1 bt452.2 bt457.1 bt457.2.1)))))))))) = some r:=H
  have A7:=am A70
  clear A70
  by_cases c8 : t435 < 0
  ·rw [if_pos c8] at H
   have c8b0 : decide (t435 < 0) = true:=decide_eq_true c8
   clear c8
   obtain rfl:=Option.some.inj H
   go_enter Tryd.func6,Tryd.ntmps6
   go_wp2_with (first|((with_reducible refine gate_dst (N:=4) rfl ?_);refine box_event ?hg (N:=4) ?hd (cs:=#[.int .i64 a1_0,.slice A1_1 l1_1.length c1_1]) (t:=25) ?hr ?_;(case hd => rfl);(case hg => rfl);(case hr => first|(go_simp;done)|(go_simp;rfl));intro gb433 hg w9 hbox hb;have n0_:=am (below_step (lup HB.out) hb);have n1_:=am (hbox);have n2_:=am ((by rw [hg];exact (below_size (lup HB.out)) : w.heap.size ≤ gb433));have n3_:=am ((by rw [hg];exact (below_size (lup HB.out)) : w.heap.size ≤ gb433));clear HB;have HB:=n0_;have BK433:=n1_;have GW433:=n2_;have GE433:=n3_;clear n0_ n1_ n2_ n3_;clear hb hbox hg)|((with_reducible refine gate_callee (f:=16) rfl ?_);refine goesL_ (some 21) rfl rfl Tryd.func16 (by kernel_rfl) rfl #[.slice A0 l0.length c0,.int .i64 1048576] rfl (by (try simp only [List.map_toArray,List.map_cons,List.map_nil]);first|done|rfl|(simp only [List.length_drop,List.length_take];rfl)) ?_;(with_reducible refine (laws_szStringS.calls k _ _ l0 1048576 t434 _ ?side1 ?side2 A4.out).mono ?_);(case side1 => repeat (first|exact (Kd.C_below HR0.out HB.out)|(with_reducible first|refine Kd.C_alloc ?_ _|refine Kd.C_drewN ?_ _|refine Kd.C_drew ?_)));(case side2 => exact HC0.out);rintro e w' ⟨rfl,⟨nd,rfl⟩⟩;refine ⟨_,rfl,?_⟩;have hcz10_0 : w9.cell? ⟨gb433,0,none⟩ = some (.int .i64 a1_0):=(blk_cell BK433.out 0).trans rfl;have hcz10_1 : w9.cell? ⟨gb433,1,none⟩ = some (.slice A1_1 l1_1.length c1_1):=(blk_cell BK433.out 1).trans rfl;have hfz10_0:=blk_frozen BK433.out 0;have hfz10_1:=blk_frozen BK433.out 1)|((with_reducible refine gate_callee (f:=17) rfl ?_);refine goesL_ (some 26) rfl rfl Tryd.func17 (by kernel_rfl) rfl #[.agg #[.int .i64 a1_0,.slice A1_1 l1_1.length c1_1],.int .i64 t434] rfl (by (try simp only [List.map_toArray,List.map_cons,List.map_nil]);first|done|rfl|(simp only [List.length_drop,List.length_take];rfl)) ?_;(with_reducible refine (laws_szNursery.calls a1_0 _ _ l1_1 t434 t435 _ ?side1 ?side2 A7.out).mono ?_);(case side1 => repeat (first|exact (Kd.C_below HR1_1.out (lup HB.out))|(with_reducible first|refine Kd.C_alloc ?_ _|refine Kd.C_drewN ?_ _|refine Kd.C_drew ?_)));(case side2 => exact HC1_1.out);rintro e w11 ⟨rfl,hb⟩;refine ⟨_,rfl,?_⟩;have n0_:=am (blk_below (bup BK433.out) hb);have n1_:=am (below_step (lup HB.out) hb);clear BK433 HB;have BK433:=n0_;have HB:=n1_;clear n0_ n1_;(try clear hb);(try clear hb2);(try clear hk);(try clear hi)))
   go_ret
   exact ⟨by first|rfl|(simp [errW_none,errW_some] <;> rfl)|(simp [*,errW_none,errW_some] <;> rfl),by repeat (first|(with_reducible first|exact HB.out|apply below_alloc|apply pw_below_drewN|apply below_drew1|refine below_set ?_ GE433.out)|exact HB.out)⟩
  ·rw [if_neg c8] at H
   have c8b0 : decide (t435 < 0) = false:=decide_eq_false c8
   clear c8
   replace H:=Option.bind_eq_some_iff.mp H
   obtain ⟨t436,A120,H⟩:=H
   replace H : ((laws_toNursery.f k a1_0 l1_1).bind fun bt439 => ((spec_YoungObject.f k t436 bt439.1 bt439.2 a2).bind fun bt443 => ((laws_toStringS.f k l0).bind fun t449 => ((laws_toNursery.f k a1_0 l1_1).bind fun bt452 => ((impl_YoungObject.f k t449 bt452.1 bt452.2 a2).bind fun bt457 => ((laws_eqObj.f k bt457.1 bt457.2.1 bt443.1 bt443.2.1).bind fun t463 => (if t463 = true then (laws_FnExactYoungObject.j0 k l0 a2 bt443.2.2 t449 bt457.2.2 (bt457.2.2 != bt443.2.2) a1_0 l1_1 bt443.1 bt443.2.1 bt452.1 bt452.2 bt457.1 bt457.2.1) else (laws_FnExactYoungObject.j0 k l0 a2 bt443.2.2 t449 bt457.2.2 true a1_0 l1_1 bt443.1 bt443.2.1 bt452.1 bt452.2 bt457.1 bt457.2.1)))))))) = some r:=H
   have A12:=am A120
   clear A120
   replace H:=Option.bind_eq_some_iff.mp H
   obtain ⟨⟨t439,t440⟩,A130,H⟩:=H
   replace H : ((spec_YoungObject.f k t436 t439 t440 a2).bind fun bt443 => ((laws_toStringS.f k l0).bind fun t449 => ((laws_toNursery.f k a1_0 l1_1).bind fun bt452 => ((impl_YoungObject.f k t449 bt452.1 bt452.2 a2).bind fun bt457 => ((laws_eqObj.f k bt457.1 bt457.2.1 bt443.1 bt443.2.1).bind fun t463 => (if t463 = true then (laws_FnExactYoungObject.j0 k l0 a2 bt443.2.2 t449 bt457.2.2 (bt457.2.2 != bt443.2.2) a1_0 l1_1 bt443.1 bt443.2.1 bt452.1 bt452.2 bt457.1 bt457.2.1) else (laws_FnExactYoungObject.j0 k l0 a2 bt443.2.2 t449 bt457.2.2 true a1_0 l1_1 bt443.1 bt443.2.1 bt452.1 bt452.2 bt457.1 bt457.2.1))))))) = some r:=H
   have A13:=am A130
   clear A130
   replace H:=Option.bind_eq_some_iff.mp H
   obtain ⟨⟨t443,t444,t447⟩,A140,H⟩:=H
   replace H : ((laws_toStringS.f k l0).bind fun t449 => ((laws_toNursery.f k a1_0 l1_1).bind fun bt452 => ((impl_YoungObject.f k t449 bt452.1 bt452.2 a2).bind fun bt457 => ((laws_eqObj.f k bt457.1 bt457.2.1 t443 t444).bind fun t463 => (if t463 = true then (laws_FnExactYoungObject.j0 k l0 a2 t447 t449 bt457.2.2 (bt457.2.2 != t447) a1_0 l1_1 t443 t444 bt452.1 bt452.2 bt457.1 bt457.2.1) else (laws_FnExactYoungObject.j0 k l0 a2 t447 t449 bt457.2.2 true a1_0 l1_1 t443 t444 bt452.1 bt452.2 bt457.1 bt457.2.1)))))) = some r:=H
   have A14:=am A140
   clear A140
   replace H:=Option.bind_eq_some_iff.mp H
   obtain ⟨t449,A150,H⟩:=H
   replace H : ((laws_toNursery.f k a1_0 l1_1).bind fun bt452 => ((impl_YoungObject.f k t449 bt452.1 bt452.2 a2).bind fun bt457 => ((laws_eqObj.f k bt457.1 bt457.2.1 t443 t444).bind fun t463 => (if t463 = true then (laws_FnExactYoungObject.j0 k l0 a2 t447 t449 bt457.2.2 (bt457.2.2 != t447) a1_0 l1_1 t443 t444 bt452.1 bt452.2 bt457.1 bt457.2.1) else (laws_FnExactYoungObject.j0 k l0 a2 t447 t449 bt457.2.2 true a1_0 l1_1 t443 t444 bt452.1 bt452.2 bt457.1 bt457.2.1))))) = some r:=H
   have A15:=am A150
   clear A150
   replace H:=Option.bind_eq_some_iff.mp H
   obtain ⟨⟨t452,t453⟩,A160,H⟩:=H
   replace H : ((impl_YoungObject.f k t449 t452 t453 a2).bind fun bt457 => ((laws_eqObj.f k bt457.1 bt457.2.1 t443 t444).bind fun t463 => (if t463 = true then (laws_FnExactYoungObject.j0 k l0 a2 t447 t449 bt457.2.2 (bt457.2.2 != t447) a1_0 l1_1 t443 t444 t452 t453 bt457.1 bt457.2.1) else (laws_FnExactYoungObject.j0 k l0 a2 t447 t449 bt457.2.2 true a1_0 l1_1 t443 t444 t452 t453 bt457.1 bt457.2.1)))) = some r:=H
   have A16:=am A160
   clear A160
   replace H:=Option.bind_eq_some_iff.mp H
   obtain ⟨⟨t457,t458,t461⟩,A170,H⟩:=H
   replace H : ((laws_eqObj.f k t457 t458 t443 t444).bind fun t463 => (if t463 = true then (laws_FnExactYoungObject.j0 k l0 a2 t447 t449 t461 (t461 != t447) a1_0 l1_1 t443 t444 t452 t453 t457 t458) else (laws_FnExactYoungObject.j0 k l0 a2 t447 t449 t461 true a1_0 l1_1 t443 t444 t452 t453 t457 t458))) = some r:=H
   have A17:=am A170
   clear A170
   have HC18:=am H
   clear H
   go_enter Tryd.func6,Tryd.ntmps6
   try go_wp2_with (first|((with_reducible refine gate_dst (N:=4) rfl ?_);refine box_event ?hg (N:=4) ?hd (cs:=#[.int .i64 a1_0,.slice A1_1 l1_1.length c1_1]) (t:=25) ?hr ?_;(case hd => rfl);(case hg => rfl);(case hr => first|(go_simp;done)|(go_simp;rfl));intro gb433 hg w19 hbox hb;have n0_:=am (below_step (lup HB.out) hb);have n1_:=am (hbox);have n2_:=am ((by rw [hg];exact (below_size (lup HB.out)) : w.heap.size ≤ gb433));have n3_:=am ((by rw [hg];exact (below_size (lup HB.out)) : w.heap.size ≤ gb433));clear HB;have HB:=n0_;have BK433:=n1_;have GW433:=n2_;have GE433:=n3_;clear n0_ n1_ n2_ n3_;clear hb hbox hg)|((with_reducible refine gate_callee (f:=16) rfl ?_);refine goesL_ (some 21) rfl rfl Tryd.func16 (by kernel_rfl) rfl #[.slice A0 l0.length c0,.int .i64 1048576] rfl (by (try simp only [List.map_toArray,List.map_cons,List.map_nil]);first|done|rfl|(simp only [List.length_drop,List.length_take];rfl)) ?_;(with_reducible refine (laws_szStringS.calls k _ _ l0 1048576 t434 _ ?side1 ?side2 A4.out).mono ?_);(case side1 => repeat (first|exact (Kd.C_below HR0.out HB.out)|(with_reducible first|refine Kd.C_alloc ?_ _|refine Kd.C_drewN ?_ _|refine Kd.C_drew ?_)));(case side2 => exact HC0.out);rintro e w' ⟨rfl,⟨nd,rfl⟩⟩;refine ⟨_,rfl,?_⟩;(try (rw [drewN_self w19];generalize hq_ : World.drewN w19 _ = w19;have n0_ : Aside0 (w19.heap[gb433]? = some (.cells #[.int .i64 a1_0,.slice A1_1 l1_1.length c1_1] 25 (0,0))):=⟨by rw [← hq_];exact (bup BK433.out)⟩;have n1_ : Aside0 (Below w.heap.size w w19):=⟨by rw [← hq_];exact (lup HB.out)⟩;clear BK433 HB hq_;have BK433:=n0_;have HB:=n1_;clear n0_ n1_));have hcz20_0 : w19.cell? ⟨gb433,0,none⟩ = some (.int .i64 a1_0):=(blk_cell BK433.out 0).trans rfl;have hcz20_1 : w19.cell? ⟨gb433,1,none⟩ = some (.slice A1_1 l1_1.length c1_1):=(blk_cell BK433.out 1).trans rfl;have hfz20_0:=blk_frozen BK433.out 0;have hfz20_1:=blk_frozen BK433.out 1)|((with_reducible refine gate_callee (f:=17) rfl ?_);refine goesL_ (some 26) rfl rfl Tryd.func17 (by kernel_rfl) rfl #[.agg #[.int .i64 a1_0,.slice A1_1 l1_1.length c1_1],.int .i64 t434] rfl (by (try simp only [List.map_toArray,List.map_cons,List.map_nil]);first|done|rfl|(simp only [List.length_drop,List.length_take];rfl)) ?_;(with_reducible refine (laws_szNursery.calls a1_0 _ _ l1_1 t434 t435 _ ?side1 ?side2 A7.out).mono ?_);(case side1 => repeat (first|exact (Kd.C_below HR1_1.out HB.out)|(with_reducible first|refine Kd.C_alloc ?_ _|refine Kd.C_drewN ?_ _|refine Kd.C_drew ?_)));(case side2 => exact HC1_1.out);rintro e w21 ⟨rfl,hb⟩;refine ⟨_,rfl,?_⟩;have n0_:=am (blk_below (bup BK433.out) hb);have n1_:=am (below_step (lup HB.out) hb);clear BK433 HB;have BK433:=n0_;have HB:=n1_;clear n0_ n1_;(try clear hb);(try clear hb2);(try clear hk);(try clear hi)))
   have n0_:=am (blk_drew BK433.out)
   have n1_:=am (below_drew1 HB.out)
   clear BK433
   clear HB
   have BK433:=n0_
   have HB:=n1_
   clear n0_ n1_
   refine start_ (n:=12) (S:=fun w' => w'.cell? ⟨gb433,0,none⟩ = some (.int .i64 a1_0)∧w'.cell? ⟨gb433,1,none⟩ = some (.slice A1_1 l1_1.length c1_1)) (ds:=[]) #[false,false,false,false,false,false,false,false,false,false,false,false] (by kernel_rfl) rfl rfl ⟨(blk_cell BK433.out 0).trans rfl,(blk_cell BK433.out 1).trans rfl⟩ (fun hHeld => ?_);refine with_tabW laws_FnExactYoungObject.tab8 laws_FnExactYoungObject.bits8 (fun HT_ HW_ => ?_)
   generalize w21.drew = w22 at BK433 HB hHeld ⊢
   refine pure_ (i:=0) (N:=some 30) (v:=?_) (a':=?_) #[true,false,false,false,false,false,false,false,false,false,false,false] rfl rfl (any_of HT_.out (by kernel_rfl)) (fun _ _ _ h => h) (Or.inl ⟨by rfl,?_⟩) ?_ ?_
   rotate_left
   ·intro w'
    go_simp
    with_reducible rfl
   rotate_left
   ·simp only [Act.put,List.setIfInBounds_toArray,List.set_cons_zero,List.set_cons_succ,i64_w,i32_w]
    rfl
   refine pure_ (i:=4) (N:=some 34) (v:=?_) (a':=?_) #[true,false,false,false,true,false,false,false,false,false,false,false] rfl rfl (any_of HT_.out (by kernel_rfl)) (fun _ _ _ h => h) (Or.inl ⟨by rfl,?_⟩) ?_ ?_
   rotate_left
   ·intro w'
    go_simp
    with_reducible rfl
   rotate_left
   ·simp only [Act.put,List.setIfInBounds_toArray,List.set_cons_zero,List.set_cons_succ,i64_w,i32_w]
    rfl
   refine take_ (i:=2) (N:=some 32) (v:=?_) (a':=?_) #[true,false,true,false,true,false,false,false,false,false,false,false] rfl rfl (take_ofW HT_.out HW_.out (by kernel_rfl)) (fun _ _ _ h => h) (Or.inl ⟨by rfl,?_⟩) hHeld ?_ ?_
   rotate_left
   ·rintro w' ⟨s0,s1⟩
    go_simp
    with_reducible rfl
   rotate_left
   ·simp only [Act.put,List.setIfInBounds_toArray,List.set_cons_zero,List.set_cons_succ,i64_w,i32_w]
    rfl
   refine join_ (σ:=Value × Value × Value × Nat) 2 #[true,true,true,true,true,true,true,true,true,true,false,false] (fun s_ => [(31,s_.1),(33,.agg #[.int .i64 t439,s_.2.1]),(35,.tuple #[.agg #[.int .i64 t443,s_.2.2.1],.bool t447]),(8,.pointer (some ⟨s_.2.2.2,0,none⟩)),(29,.tuple #[.agg #[.int .i64 t443,s_.2.2.1],.bool t447]),(36,.agg #[.int .i64 t443,s_.2.2.1]),(37,.bool t447)]) (fun s_ w' => (w'.cell? ⟨gb433,0,none⟩ = some (.int .i64 a1_0)∧w'.cell? ⟨gb433,1,none⟩ = some (.slice A1_1 l1_1.length c1_1))∧(Kd.R Kd.string 9 w' w.heap.size (fun _ => True) s_.1 t436)∧(Kd.R (Kd.int .i64) 2 w' w.heap.size (fun k_ => some k_≠(s_.2.2.1 : Value).ownBlock) s_.2.1 t440)∧(Kd.R (Kd.int .i64) 2 w' w.heap.size (fun k_ => some k_≠(s_.2.1 : Value).ownBlock) s_.2.2.1 t444)∧(w'.heap[gb433]? = some (.cells #[.int .i64 a1_0,.slice A1_1 l1_1.length c1_1] 25 (0,0)))∧(w'.heap[s_.2.2.2]? = some (.cells #[.int .i64 0,.slice none 0 0] 40 (0,0)))∧(w.heap.size ≤ s_.2.2.2)∧(w.heap.size ≤ s_.2.2.2)∧(gb433≠s_.2.2.2)∧(s_.2.2.2≠gb433)∧(Below w.heap.size w w')) ?_ ?_
   rotate_left
   ·intro hCont
    refine two_ (i:=1) (j:=9) (Ni:=some 31) (Nj:=some 8) #[true,true,true,false,true,false,false,false,false,false,false,false] #[true,false,true,false,true,false,false,false,false,true,false,false] rfl rfl rfl rfl (two_of HT_.out (by kernel_rfl)) (by decide) (by decide) (fun K hK => ?_) (fun K hK => ?_)
    ·skip
     refine goes_ Tryd.func19 (by kernel_rfl) rfl #[.slice A0 l0.length c0] (by rfl) rfl rfl (by (try simp only [List.map_toArray,List.map_cons,List.map_nil]);first|done|rfl|(simp only [List.length_drop,List.length_take];rfl)) ?_
     with_reducible refine (laws_toStringS.calls k _ _ l0 t436 _ ?side1 ?side2 A12.out).mono ?_
     (case side1 => repeat (first|exact (Kd.C_below HR0.out HB.out)|(with_reducible first|refine Kd.C_alloc ?_ _|refine Kd.C_drewN ?_ _|refine Kd.C_drew ?_)))
     (case side2 => exact HC0.out)
     rintro e w23 ⟨v437,rfl,ho0,hb⟩
     refine ⟨_,rfl,?_⟩
     have n0_:=am (Kd.R_lower ho0 (below_size (lup HB.out)))
     have n1_:=am (blk_below (bup BK433.out) hb)
     have n2_:=am (below_step (lup HB.out) hb)
     clear BK433
     clear HB
     have HO438:=n0_
     have BK433:=n1_
     have HB:=n2_
     clear n0_ n1_ n2_
     (try clear hb)
     (try clear hb2)
     (try clear hk)
     (try clear hi)
     (try clear ho0)
     refine hK.out _ _ ⟨(blk_cell BK433.out 0).trans rfl,(blk_cell BK433.out 1).trans rfl⟩ (fun hHeld => ?_)
     clear hK K
     refine norm_ (a':=?_) ?_ ?_
     rotate_left
     ·show Act.put _ (some 31) _ = _
      simp only [Act.put,List.setIfInBounds_toArray,List.set_cons_zero,List.set_cons_succ,i64_w,i32_w]
      rfl
     refine two_ (i:=3) (j:=9) (Ni:=some 33) (Nj:=some 8) #[true,true,true,true,true,false,false,false,false,false,false,false] #[true,true,true,false,true,false,false,false,false,true,false,false] rfl rfl rfl rfl (two_of HT_.out (by kernel_rfl)) (by decide) (by decide) (fun K hK => ?_) (fun K hK => ?_)
     ·skip
      refine goes_ Tryd.func20 (by kernel_rfl) rfl #[.agg #[.int .i64 a1_0,.slice A1_1 l1_1.length c1_1]] (by rfl) rfl rfl (by (try simp only [List.map_toArray,List.map_cons,List.map_nil]);first|done|rfl|(simp only [List.length_drop,List.length_take];rfl)) ?_
      with_reducible refine (laws_toNursery.calls k a1_0 _ _ l1_1 t439 t440 _ ?side1 ?side2 A13.out).mono ?_
      (case side1 => repeat (first|exact (Kd.C_below HR1_1.out HB.out)|(with_reducible first|refine Kd.C_alloc ?_ _|refine Kd.C_drewN ?_ _|refine Kd.C_drew ?_)))
      (case side2 => exact HC1_1.out)
      rintro e w24 ⟨v441,rfl,ho0,hb⟩
      refine ⟨_,rfl,?_⟩
      have n0_:=am (Kd.R_below (kup HO438.out) hb)
      have n1_:=am (Kd.R_lower ho0 (below_size (lup HB.out)))
      have n2_:=am (blk_below (bup BK433.out) hb)
      have n3_:=am (below_step (lup HB.out) hb)
      clear HO438
      clear BK433
      clear HB
      have HO438:=n0_
      have HO442:=n1_
      have BK433:=n2_
      have HB:=n3_
      clear n0_ n1_ n2_ n3_
      (try clear hb)
      (try clear hb2)
      (try clear hk)
      (try clear hi)
      (try clear ho0)
      obtain ⟨Ao25,co25,eo25⟩:=Kd.R_slice HO438.out
      (first|subst eo25|(injection eo25 with f1_ f2_ f3_;have f4_:=f1_.symm;have f5_:=f3_.symm;clear f1_ f2_ f3_;subst f4_;subst f5_))
      obtain ⟨Ao26,co26,eo26⟩:=Kd.R_slice HO442.out
      (first|subst eo26|(injection eo26 with f1_ f2_ f3_;have f4_:=f1_.symm;have f5_:=f3_.symm;clear f1_ f2_ f3_;subst f4_;subst f5_))
      refine hK.out _ _ ⟨(blk_cell BK433.out 0).trans rfl,(blk_cell BK433.out 1).trans rfl⟩ (fun hHeld => ?_)
      clear hK K
      refine norm_ (a':=?_) ?_ ?_
      rotate_left
      ·show Act.put _ (some 33) _ = _
       simp only [Act.put,List.setIfInBounds_toArray,List.set_cons_zero,List.set_cons_succ,i64_w,i32_w]
       rfl
      refine two_ (i:=5) (j:=9) (Ni:=some 35) (Nj:=some 8) #[true,true,true,true,true,true,false,false,false,false,false,false] #[true,true,true,true,true,false,false,false,false,true,false,false] rfl rfl rfl rfl (two_of HT_.out (by kernel_rfl)) (by decide) (by decide) (fun K hK => ?_) (fun K hK => ?_)
      ·skip
       refine goes_ Tryd.func33 (by kernel_rfl) rfl #[.slice Ao25 t436.length co25,.agg #[.int .i64 t439,.slice Ao26 t440.length co26],.int .i64 a2] (by rfl) rfl rfl (by (try simp only [List.map_toArray,List.map_cons,List.map_nil]);first|done|rfl|(simp only [List.length_drop,List.length_take];rfl)) ?_
       with_reducible refine (spec_YoungObject.calls k _ _ t436 t439 _ _ t440 a2 t443 t444 t447 _ ?side1 ?side2 ?side3 ?side4 A14.out).mono ?_
       (case side1 => repeat (first|exact (Kd.R_reads' HO438.out).2.2|(with_reducible first|refine Kd.C_alloc ?_ _|refine Kd.C_drewN ?_ _|refine Kd.C_drew ?_)))
       (case side2 => exact (Kd.R_reads' HO438.out).2.1)
       (case side3 => repeat (first|exact (Kd.R_reads' HO442.out).2.2|(with_reducible first|refine Kd.C_alloc ?_ _|refine Kd.C_drewN ?_ _|refine Kd.C_drew ?_)))
       (case side4 => exact (Kd.R_reads' HO442.out).2.1)
       rintro e w27 ⟨v445,rfl,ho0,hb⟩
       refine ⟨_,rfl,?_⟩
       have n0_:=am (Kd.R_below (kup HO438.out) hb)
       have n1_:=am (Kd.R_elder' (kup HO442.out) (Kd.R_base ho0) hb)
       have n2_:=am (Kd.R_lower (Kd.R_new' ho0 (Kd.R_lt (kup HO442.out))) (below_size (lup HB.out)))
       have n3_:=am (blk_below (bup BK433.out) hb)
       have n4_:=am (below_step (lup HB.out) hb)
       clear HO438
       clear HO442
       clear BK433
       clear HB
       have HO438:=n0_
       have HO442:=n1_
       have HO446:=n2_
       have BK433:=n3_
       have HB:=n4_
       clear n0_ n1_ n2_ n3_ n4_
       (try clear hb)
       (try clear hb2)
       (try clear hk)
       (try clear hi)
       (try clear ho0)
       refine hK.out _ _ ⟨(blk_cell BK433.out 0).trans rfl,(blk_cell BK433.out 1).trans rfl⟩ (fun hHeld => ?_)
       clear hK K
       refine norm_ (a':=?_) ?_ ?_
       rotate_left
       ·show Act.put _ (some 35) _ = _
        simp only [Act.put,List.setIfInBounds_toArray,List.set_cons_zero,List.set_cons_succ,i64_w,i32_w]
        rfl
       refine pure_ (i:=6) (N:=some 29) (v:=?_) (a':=?_) #[true,true,true,true,true,true,true,false,false,false,false,false] rfl rfl (any_of HT_.out (by kernel_rfl)) (fun _ _ _ h => h) (Or.inl ⟨by rfl,?_⟩) ?_ ?_
       rotate_left
       ·intro w'
        go_simp
        with_reducible rfl
       rotate_left
       ·simp only [Act.put,List.setIfInBounds_toArray,List.set_cons_zero,List.set_cons_succ,i64_w,i32_w]
        rfl
       refine pure_ (i:=7) (N:=some 36) (v:=?_) (a':=?_) #[true,true,true,true,true,true,true,true,false,false,false,false] rfl rfl (any_of HT_.out (by kernel_rfl)) (fun _ _ _ h => h) (Or.inl ⟨by rfl,?_⟩) ?_ ?_
       rotate_left
       ·intro w'
        go_simp
        with_reducible rfl
       rotate_left
       ·simp only [Act.put,List.setIfInBounds_toArray,List.set_cons_zero,List.set_cons_succ,i64_w,i32_w]
        rfl
       refine pure_ (i:=8) (N:=some 37) (v:=?_) (a':=?_) #[true,true,true,true,true,true,true,true,true,false,false,false] rfl rfl (any_of HT_.out (by kernel_rfl)) (fun _ _ _ h => h) (Or.inl ⟨by rfl,?_⟩) ?_ ?_
       rotate_left
       ·intro w'
        go_simp
        with_reducible rfl
       rotate_left
       ·simp only [Act.put,List.setIfInBounds_toArray,List.set_cons_zero,List.set_cons_succ,i64_w,i32_w]
        rfl
       refine one_ (i:=9) (N:=some 8) #[true,true,true,true,true,true,true,true,true,true,false,false] rfl rfl (one_of HT_.out (by kernel_rfl)) (by decide) (fun K hK => ?_)
       refine box_step ?hg (N:=8) ?hd (cs:=#[.int .i64 0,.slice none 0 0]) (t:=40) ?hr ?_;(case hd => rfl);(case hg => rfl);(case hr => first|(go_simp;done)|(go_simp;rfl))
       intro gb448 hg w28 hbox hb
       have n0_:=am (Kd.R_below (kup HO438.out) hb)
       have n1_:=am (Kd.R_below (kup HO442.out) hb)
       have n2_:=am (Kd.R_below (kup HO446.out) hb)
       have n3_:=am (blk_below (bup BK433.out) hb)
       have n4_:=am (below_step (lup HB.out) hb)
       have n5_:=am (hbox)
       have n6_:=am ((by rw [hg];exact (below_size (lup HB.out)) : w.heap.size ≤ gb448))
       have n7_:=am ((by rw [hg];exact (below_size (lup HB.out)) : w.heap.size ≤ gb448))
       have n8_:=am ((by rw [hg];exact Nat.ne_of_lt (blk_lt (bup BK433.out)) : gb433≠gb448))
       have n9_:=am ((by rw [hg];exact Nat.ne_of_gt (blk_lt (bup BK433.out)) : gb448≠gb433))
       clear HO438
       clear HO442
       clear HO446
       clear BK433
       clear HB
       have HO438:=n0_
       have HO442:=n1_
       have HO446:=n2_
       have BK433:=n3_
       have HB:=n4_
       have BK448:=n5_
       have GW448:=n6_
       have GE448:=n7_
       have NB433_448:=n8_
       have NB448_433:=n9_
       clear n0_ n1_ n2_ n3_ n4_ n5_ n6_ n7_ n8_ n9_
       clear hb hbox hg
       refine hK.out _ _ ⟨(blk_cell BK433.out 0).trans rfl,(blk_cell BK433.out 1).trans rfl⟩ (fun hHeld => ?_)
       clear hK K
       refine norm_ (a':=?_) ?_ ?_
       rotate_left
       ·show Act.put _ (some 8) _ = _
        simp only [Act.put,List.setIfInBounds_toArray,List.set_cons_zero,List.set_cons_succ,i64_w,i32_w]
        rfl
       exact norm_ (by simp only [putAll,Act.put,List.setIfInBounds_toArray,List.set_cons_zero,List.set_cons_succ]) (hCont (.slice Ao25 t436.length co25,.slice Ao26 t440.length co26,v445,gb448) _ ⟨hHeld,(kup HO438.out),(kup (Kd.R_mono HO442.out (fun _ hk => hk.2))),(kup (Kd.R_mono HO446.out (fun _ hk => hk.2))),(bup BK433.out),(bup BK448.out),GW448.out,GE448.out,NB433_448.out,NB448_433.out,(lup HB.out)⟩)
      ·skip
       refine box_step ?hg (N:=8) ?hd (cs:=#[.int .i64 0,.slice none 0 0]) (t:=40) ?hr ?_;(case hd => rfl);(case hg => rfl);(case hr => first|(go_simp;done)|(go_simp;rfl))
       intro gb448 hg w25 hbox hb
       have n0_:=am (Kd.R_below (kup HO438.out) hb)
       have n1_:=am (Kd.R_below (kup HO442.out) hb)
       have n2_:=am (blk_below (bup BK433.out) hb)
       have n3_:=am (below_step (lup HB.out) hb)
       have n4_:=am (hbox)
       have n5_:=am ((by rw [hg];exact (below_size (lup HB.out)) : w.heap.size ≤ gb448))
       have n6_:=am ((by rw [hg];exact (below_size (lup HB.out)) : w.heap.size ≤ gb448))
       have n7_:=am ((by rw [hg];exact Nat.ne_of_lt (blk_lt (bup BK433.out)) : gb433≠gb448))
       have n8_:=am ((by rw [hg];exact Nat.ne_of_gt (blk_lt (bup BK433.out)) : gb448≠gb433))
       clear HO438
       clear HO442
       clear BK433
       clear HB
       have HO438:=n0_
       have HO442:=n1_
       have BK433:=n2_
       have HB:=n3_
       have BK448:=n4_
       have GW448:=n5_
       have GE448:=n6_
       have NB433_448:=n7_
       have NB448_433:=n8_
       clear n0_ n1_ n2_ n3_ n4_ n5_ n6_ n7_ n8_
       clear hb hbox hg
       obtain ⟨Ao26,co26,eo26⟩:=Kd.R_slice HO438.out
       (first|subst eo26|(injection eo26 with f1_ f2_ f3_;have f4_:=f1_.symm;have f5_:=f3_.symm;clear f1_ f2_ f3_;subst f4_;subst f5_))
       obtain ⟨Ao27,co27,eo27⟩:=Kd.R_slice HO442.out
       (first|subst eo27|(injection eo27 with f1_ f2_ f3_;have f4_:=f1_.symm;have f5_:=f3_.symm;clear f1_ f2_ f3_;subst f4_;subst f5_))
       refine hK.out _ _ ⟨(blk_cell BK433.out 0).trans rfl,(blk_cell BK433.out 1).trans rfl⟩ (fun hHeld => ?_)
       clear hK K
       refine norm_ (a':=?_) ?_ ?_
       rotate_left
       ·show Act.put _ (some 8) _ = _
        simp only [Act.put,List.setIfInBounds_toArray,List.set_cons_zero,List.set_cons_succ,i64_w,i32_w]
        rfl
       refine one_ (i:=5) (N:=some 35) #[true,true,true,true,true,true,false,false,false,true,false,false] rfl rfl (one_of HT_.out (by kernel_rfl)) (by decide) (fun K hK => ?_)
       refine goes_ Tryd.func33 (by kernel_rfl) rfl #[.slice Ao26 t436.length co26,.agg #[.int .i64 t439,.slice Ao27 t440.length co27],.int .i64 a2] (by rfl) rfl rfl (by (try simp only [List.map_toArray,List.map_cons,List.map_nil]);first|done|rfl|(simp only [List.length_drop,List.length_take];rfl)) ?_
       with_reducible refine (spec_YoungObject.calls k _ _ t436 t439 _ _ t440 a2 t443 t444 t447 _ ?side1 ?side2 ?side3 ?side4 A14.out).mono ?_
       (case side1 => repeat (first|exact (Kd.R_reads' HO438.out).2.2|(with_reducible first|refine Kd.C_alloc ?_ _|refine Kd.C_drewN ?_ _|refine Kd.C_drew ?_)))
       (case side2 => exact (Kd.R_reads' HO438.out).2.1)
       (case side3 => repeat (first|exact (Kd.R_reads' HO442.out).2.2|(with_reducible first|refine Kd.C_alloc ?_ _|refine Kd.C_drewN ?_ _|refine Kd.C_drew ?_)))
       (case side4 => exact (Kd.R_reads' HO442.out).2.1)
       rintro e w28 ⟨v445,rfl,ho0,hb⟩
       refine ⟨_,rfl,?_⟩
       have n0_:=am (Kd.R_below (kup HO438.out) hb)
       have n1_:=am (Kd.R_elder' (kup HO442.out) (Kd.R_base ho0) hb)
       have n2_:=am (Kd.R_lower (Kd.R_new' ho0 (Kd.R_lt (kup HO442.out))) (below_size (lup HB.out)))
       have n3_:=am (blk_below (bup BK433.out) hb)
       have n4_:=am (blk_below (bup BK448.out) hb)
       have n5_:=am (below_step (lup HB.out) hb)
       clear HO438
       clear HO442
       clear BK433
       clear BK448
       clear HB
       have HO438:=n0_
       have HO442:=n1_
       have HO446:=n2_
       have BK433:=n3_
       have BK448:=n4_
       have HB:=n5_
       clear n0_ n1_ n2_ n3_ n4_ n5_
       (try clear hb)
       (try clear hb2)
       (try clear hk)
       (try clear hi)
       (try clear ho0)
       refine hK.out _ _ ⟨(blk_cell BK433.out 0).trans rfl,(blk_cell BK433.out 1).trans rfl⟩ (fun hHeld => ?_)
       clear hK K
       refine norm_ (a':=?_) ?_ ?_
       rotate_left
       ·show Act.put _ (some 35) _ = _
        simp only [Act.put,List.setIfInBounds_toArray,List.set_cons_zero,List.set_cons_succ,i64_w,i32_w]
        rfl
       refine pure_ (i:=6) (N:=some 29) (v:=?_) (a':=?_) #[true,true,true,true,true,true,true,false,false,true,false,false] rfl rfl (any_of HT_.out (by kernel_rfl)) (fun _ _ _ h => h) (Or.inl ⟨by rfl,?_⟩) ?_ ?_
       rotate_left
       ·intro w'
        go_simp
        with_reducible rfl
       rotate_left
       ·simp only [Act.put,List.setIfInBounds_toArray,List.set_cons_zero,List.set_cons_succ,i64_w,i32_w]
        rfl
       refine pure_ (i:=7) (N:=some 36) (v:=?_) (a':=?_) #[true,true,true,true,true,true,true,true,false,true,false,false] rfl rfl (any_of HT_.out (by kernel_rfl)) (fun _ _ _ h => h) (Or.inl ⟨by rfl,?_⟩) ?_ ?_
       rotate_left
       ·intro w'
        go_simp
        with_reducible rfl
       rotate_left
       ·simp only [Act.put,List.setIfInBounds_toArray,List.set_cons_zero,List.set_cons_succ,i64_w,i32_w]
        rfl
       refine pure_ (i:=8) (N:=some 37) (v:=?_) (a':=?_) #[true,true,true,true,true,true,true,true,true,true,false,false] rfl rfl (any_of HT_.out (by kernel_rfl)) (fun _ _ _ h => h) (Or.inl ⟨by rfl,?_⟩) ?_ ?_
       rotate_left
       ·intro w'
        go_simp
        with_reducible rfl
       rotate_left
       ·simp only [Act.put,List.setIfInBounds_toArray,List.set_cons_zero,List.set_cons_succ,i64_w,i32_w]
        rfl
       exact norm_ (by simp only [putAll,Act.put,List.setIfInBounds_toArray,List.set_cons_zero,List.set_cons_succ]) (hCont (.slice Ao26 t436.length co26,.slice Ao27 t440.length co27,v445,gb448) _ ⟨hHeld,(kup HO438.out),(kup (Kd.R_mono HO442.out (fun _ hk => hk.2))),(kup (Kd.R_mono HO446.out (fun _ hk => hk.2))),(bup BK433.out),(bup BK448.out),GW448.out,GE448.out,NB433_448.out,NB448_433.out,(lup HB.out)⟩)
     ·skip
      refine box_step ?hg (N:=8) ?hd (cs:=#[.int .i64 0,.slice none 0 0]) (t:=40) ?hr ?_;(case hd => rfl);(case hg => rfl);(case hr => first|(go_simp;done)|(go_simp;rfl))
      intro gb448 hg w24 hbox hb
      have n0_:=am (Kd.R_below (kup HO438.out) hb)
      have n1_:=am (blk_below (bup BK433.out) hb)
      have n2_:=am (below_step (lup HB.out) hb)
      have n3_:=am (hbox)
      have n4_:=am ((by rw [hg];exact (below_size (lup HB.out)) : w.heap.size ≤ gb448))
      have n5_:=am ((by rw [hg];exact (below_size (lup HB.out)) : w.heap.size ≤ gb448))
      have n6_:=am ((by rw [hg];exact Nat.ne_of_lt (blk_lt (bup BK433.out)) : gb433≠gb448))
      have n7_:=am ((by rw [hg];exact Nat.ne_of_gt (blk_lt (bup BK433.out)) : gb448≠gb433))
      clear HO438
      clear BK433
      clear HB
      have HO438:=n0_
      have BK433:=n1_
      have HB:=n2_
      have BK448:=n3_
      have GW448:=n4_
      have GE448:=n5_
      have NB433_448:=n6_
      have NB448_433:=n7_
      clear n0_ n1_ n2_ n3_ n4_ n5_ n6_ n7_
      clear hb hbox hg
      refine hK.out _ _ ⟨(blk_cell BK433.out 0).trans rfl,(blk_cell BK433.out 1).trans rfl⟩ (fun hHeld => ?_)
      clear hK K
      refine norm_ (a':=?_) ?_ ?_
      rotate_left
      ·show Act.put _ (some 8) _ = _
       simp only [Act.put,List.setIfInBounds_toArray,List.set_cons_zero,List.set_cons_succ,i64_w,i32_w]
       rfl
      refine one_ (i:=3) (N:=some 33) #[true,true,true,true,true,false,false,false,false,true,false,false] rfl rfl (one_of HT_.out (by kernel_rfl)) (by decide) (fun K hK => ?_)
      refine goes_ Tryd.func20 (by kernel_rfl) rfl #[.agg #[.int .i64 a1_0,.slice A1_1 l1_1.length c1_1]] (by rfl) rfl rfl (by (try simp only [List.map_toArray,List.map_cons,List.map_nil]);first|done|rfl|(simp only [List.length_drop,List.length_take];rfl)) ?_
      with_reducible refine (laws_toNursery.calls k a1_0 _ _ l1_1 t439 t440 _ ?side1 ?side2 A13.out).mono ?_
      (case side1 => repeat (first|exact (Kd.C_below HR1_1.out HB.out)|(with_reducible first|refine Kd.C_alloc ?_ _|refine Kd.C_drewN ?_ _|refine Kd.C_drew ?_)))
      (case side2 => exact HC1_1.out)
      rintro e w25 ⟨v441,rfl,ho0,hb⟩
      refine ⟨_,rfl,?_⟩
      have n0_:=am (Kd.R_below (kup HO438.out) hb)
      have n1_:=am (Kd.R_lower ho0 (below_size (lup HB.out)))
      have n2_:=am (blk_below (bup BK433.out) hb)
      have n3_:=am (blk_below (bup BK448.out) hb)
      have n4_:=am (below_step (lup HB.out) hb)
      clear HO438
      clear BK433
      clear BK448
      clear HB
      have HO438:=n0_
      have HO442:=n1_
      have BK433:=n2_
      have BK448:=n3_
      have HB:=n4_
      clear n0_ n1_ n2_ n3_ n4_
      (try clear hb)
      (try clear hb2)
      (try clear hk)
      (try clear hi)
      (try clear ho0)
      obtain ⟨Ao26,co26,eo26⟩:=Kd.R_slice HO438.out
      (first|subst eo26|(injection eo26 with f1_ f2_ f3_;have f4_:=f1_.symm;have f5_:=f3_.symm;clear f1_ f2_ f3_;subst f4_;subst f5_))
      obtain ⟨Ao27,co27,eo27⟩:=Kd.R_slice HO442.out
      (first|subst eo27|(injection eo27 with f1_ f2_ f3_;have f4_:=f1_.symm;have f5_:=f3_.symm;clear f1_ f2_ f3_;subst f4_;subst f5_))
      refine hK.out _ _ ⟨(blk_cell BK433.out 0).trans rfl,(blk_cell BK433.out 1).trans rfl⟩ (fun hHeld => ?_)
      clear hK K
      refine norm_ (a':=?_) ?_ ?_
      rotate_left
      ·show Act.put _ (some 33) _ = _
       simp only [Act.put,List.setIfInBounds_toArray,List.set_cons_zero,List.set_cons_succ,i64_w,i32_w]
       rfl
      refine one_ (i:=5) (N:=some 35) #[true,true,true,true,true,true,false,false,false,true,false,false] rfl rfl (one_of HT_.out (by kernel_rfl)) (by decide) (fun K hK => ?_)
      refine goes_ Tryd.func33 (by kernel_rfl) rfl #[.slice Ao26 t436.length co26,.agg #[.int .i64 t439,.slice Ao27 t440.length co27],.int .i64 a2] (by rfl) rfl rfl (by (try simp only [List.map_toArray,List.map_cons,List.map_nil]);first|done|rfl|(simp only [List.length_drop,List.length_take];rfl)) ?_
      with_reducible refine (spec_YoungObject.calls k _ _ t436 t439 _ _ t440 a2 t443 t444 t447 _ ?side1 ?side2 ?side3 ?side4 A14.out).mono ?_
      (case side1 => repeat (first|exact (Kd.R_reads' HO438.out).2.2|(with_reducible first|refine Kd.C_alloc ?_ _|refine Kd.C_drewN ?_ _|refine Kd.C_drew ?_)))
      (case side2 => exact (Kd.R_reads' HO438.out).2.1)
      (case side3 => repeat (first|exact (Kd.R_reads' HO442.out).2.2|(with_reducible first|refine Kd.C_alloc ?_ _|refine Kd.C_drewN ?_ _|refine Kd.C_drew ?_)))
      (case side4 => exact (Kd.R_reads' HO442.out).2.1)
      rintro e w28 ⟨v445,rfl,ho0,hb⟩
      refine ⟨_,rfl,?_⟩
      have n0_:=am (Kd.R_below (kup HO438.out) hb)
      have n1_:=am (Kd.R_elder' (kup HO442.out) (Kd.R_base ho0) hb)
      have n2_:=am (Kd.R_lower (Kd.R_new' ho0 (Kd.R_lt (kup HO442.out))) (below_size (lup HB.out)))
      have n3_:=am (blk_below (bup BK433.out) hb)
      have n4_:=am (blk_below (bup BK448.out) hb)
      have n5_:=am (below_step (lup HB.out) hb)
      clear HO438
      clear HO442
      clear BK433
      clear BK448
      clear HB
      have HO438:=n0_
      have HO442:=n1_
      have HO446:=n2_
      have BK433:=n3_
      have BK448:=n4_
      have HB:=n5_
      clear n0_ n1_ n2_ n3_ n4_ n5_
      (try clear hb)
      (try clear hb2)
      (try clear hk)
      (try clear hi)
      (try clear ho0)
      refine hK.out _ _ ⟨(blk_cell BK433.out 0).trans rfl,(blk_cell BK433.out 1).trans rfl⟩ (fun hHeld => ?_)
      clear hK K
      refine norm_ (a':=?_) ?_ ?_
      rotate_left
      ·show Act.put _ (some 35) _ = _
       simp only [Act.put,List.setIfInBounds_toArray,List.set_cons_zero,List.set_cons_succ,i64_w,i32_w]
       rfl
      refine pure_ (i:=6) (N:=some 29) (v:=?_) (a':=?_) #[true,true,true,true,true,true,true,false,false,true,false,false] rfl rfl (any_of HT_.out (by kernel_rfl)) (fun _ _ _ h => h) (Or.inl ⟨by rfl,?_⟩) ?_ ?_
      rotate_left
      ·intro w'
       go_simp
       with_reducible rfl
      rotate_left
      ·simp only [Act.put,List.setIfInBounds_toArray,List.set_cons_zero,List.set_cons_succ,i64_w,i32_w]
       rfl
      refine pure_ (i:=7) (N:=some 36) (v:=?_) (a':=?_) #[true,true,true,true,true,true,true,true,false,true,false,false] rfl rfl (any_of HT_.out (by kernel_rfl)) (fun _ _ _ h => h) (Or.inl ⟨by rfl,?_⟩) ?_ ?_
      rotate_left
      ·intro w'
       go_simp
       with_reducible rfl
      rotate_left
      ·simp only [Act.put,List.setIfInBounds_toArray,List.set_cons_zero,List.set_cons_succ,i64_w,i32_w]
       rfl
      refine pure_ (i:=8) (N:=some 37) (v:=?_) (a':=?_) #[true,true,true,true,true,true,true,true,true,true,false,false] rfl rfl (any_of HT_.out (by kernel_rfl)) (fun _ _ _ h => h) (Or.inl ⟨by rfl,?_⟩) ?_ ?_
      rotate_left
      ·intro w'
       go_simp
       with_reducible rfl
      rotate_left
      ·simp only [Act.put,List.setIfInBounds_toArray,List.set_cons_zero,List.set_cons_succ,i64_w,i32_w]
       rfl
      exact norm_ (by simp only [putAll,Act.put,List.setIfInBounds_toArray,List.set_cons_zero,List.set_cons_succ]) (hCont (.slice Ao26 t436.length co26,.slice Ao27 t440.length co27,v445,gb448) _ ⟨hHeld,(kup HO438.out),(kup (Kd.R_mono HO442.out (fun _ hk => hk.2))),(kup (Kd.R_mono HO446.out (fun _ hk => hk.2))),(bup BK433.out),(bup BK448.out),GW448.out,GE448.out,NB433_448.out,NB448_433.out,(lup HB.out)⟩)
    ·skip
     refine box_step ?hg (N:=8) ?hd (cs:=#[.int .i64 0,.slice none 0 0]) (t:=40) ?hr ?_;(case hd => rfl);(case hg => rfl);(case hr => first|(go_simp;done)|(go_simp;rfl))
     intro gb448 hg w23 hbox hb
     have n0_:=am (blk_below (bup BK433.out) hb)
     have n1_:=am (below_step (lup HB.out) hb)
     have n2_:=am (hbox)
     have n3_:=am ((by rw [hg];exact (below_size (lup HB.out)) : w.heap.size ≤ gb448))
     have n4_:=am ((by rw [hg];exact (below_size (lup HB.out)) : w.heap.size ≤ gb448))
     have n5_:=am ((by rw [hg];exact Nat.ne_of_lt (blk_lt (bup BK433.out)) : gb433≠gb448))
     have n6_:=am ((by rw [hg];exact Nat.ne_of_gt (blk_lt (bup BK433.out)) : gb448≠gb433))
     clear BK433
     clear HB
     have BK433:=n0_
     have HB:=n1_
     have BK448:=n2_
     have GW448:=n3_
     have GE448:=n4_
     have NB433_448:=n5_
     have NB448_433:=n6_
     clear n0_ n1_ n2_ n3_ n4_ n5_ n6_
     clear hb hbox hg
     refine hK.out _ _ ⟨(blk_cell BK433.out 0).trans rfl,(blk_cell BK433.out 1).trans rfl⟩ (fun hHeld => ?_)
     clear hK K
     refine norm_ (a':=?_) ?_ ?_
     rotate_left
     ·show Act.put _ (some 8) _ = _
      simp only [Act.put,List.setIfInBounds_toArray,List.set_cons_zero,List.set_cons_succ,i64_w,i32_w]
      rfl
     refine one_ (i:=1) (N:=some 31) #[true,true,true,false,true,false,false,false,false,true,false,false] rfl rfl (one_of HT_.out (by kernel_rfl)) (by decide) (fun K hK => ?_)
     refine goes_ Tryd.func19 (by kernel_rfl) rfl #[.slice A0 l0.length c0] (by rfl) rfl rfl (by (try simp only [List.map_toArray,List.map_cons,List.map_nil]);first|done|rfl|(simp only [List.length_drop,List.length_take];rfl)) ?_
     with_reducible refine (laws_toStringS.calls k _ _ l0 t436 _ ?side1 ?side2 A12.out).mono ?_
     (case side1 => repeat (first|exact (Kd.C_below HR0.out HB.out)|(with_reducible first|refine Kd.C_alloc ?_ _|refine Kd.C_drewN ?_ _|refine Kd.C_drew ?_)))
     (case side2 => exact HC0.out)
     rintro e w24 ⟨v437,rfl,ho0,hb⟩
     refine ⟨_,rfl,?_⟩
     have n0_:=am (Kd.R_lower ho0 (below_size (lup HB.out)))
     have n1_:=am (blk_below (bup BK433.out) hb)
     have n2_:=am (blk_below (bup BK448.out) hb)
     have n3_:=am (below_step (lup HB.out) hb)
     clear BK433
     clear BK448
     clear HB
     have HO438:=n0_
     have BK433:=n1_
     have BK448:=n2_
     have HB:=n3_
     clear n0_ n1_ n2_ n3_
     (try clear hb)
     (try clear hb2)
     (try clear hk)
     (try clear hi)
     (try clear ho0)
     refine hK.out _ _ ⟨(blk_cell BK433.out 0).trans rfl,(blk_cell BK433.out 1).trans rfl⟩ (fun hHeld => ?_)
     clear hK K
     refine norm_ (a':=?_) ?_ ?_
     rotate_left
     ·show Act.put _ (some 31) _ = _
      simp only [Act.put,List.setIfInBounds_toArray,List.set_cons_zero,List.set_cons_succ,i64_w,i32_w]
      rfl
     refine one_ (i:=3) (N:=some 33) #[true,true,true,true,true,false,false,false,false,true,false,false] rfl rfl (one_of HT_.out (by kernel_rfl)) (by decide) (fun K hK => ?_)
     refine goes_ Tryd.func20 (by kernel_rfl) rfl #[.agg #[.int .i64 a1_0,.slice A1_1 l1_1.length c1_1]] (by rfl) rfl rfl (by (try simp only [List.map_toArray,List.map_cons,List.map_nil]);first|done|rfl|(simp only [List.length_drop,List.length_take];rfl)) ?_
     with_reducible refine (laws_toNursery.calls k a1_0 _ _ l1_1 t439 t440 _ ?side1 ?side2 A13.out).mono ?_
     (case side1 => repeat (first|exact (Kd.C_below HR1_1.out HB.out)|(with_reducible first|refine Kd.C_alloc ?_ _|refine Kd.C_drewN ?_ _|refine Kd.C_drew ?_)))
     (case side2 => exact HC1_1.out)
     rintro e w25 ⟨v441,rfl,ho0,hb⟩
     refine ⟨_,rfl,?_⟩
     have n0_:=am (Kd.R_below (kup HO438.out) hb)
     have n1_:=am (Kd.R_lower ho0 (below_size (lup HB.out)))
     have n2_:=am (blk_below (bup BK433.out) hb)
     have n3_:=am (blk_below (bup BK448.out) hb)
     have n4_:=am (below_step (lup HB.out) hb)
     clear HO438
     clear BK433
     clear BK448
     clear HB
     have HO438:=n0_
     have HO442:=n1_
     have BK433:=n2_
     have BK448:=n3_
     have HB:=n4_
     clear n0_ n1_ n2_ n3_ n4_
     (try clear hb)
     (try clear hb2)
     (try clear hk)
     (try clear hi)
     (try clear ho0)
     obtain ⟨Ao26,co26,eo26⟩:=Kd.R_slice HO438.out
     (first|subst eo26|(injection eo26 with f1_ f2_ f3_;have f4_:=f1_.symm;have f5_:=f3_.symm;clear f1_ f2_ f3_;subst f4_;subst f5_))
     obtain ⟨Ao27,co27,eo27⟩:=Kd.R_slice HO442.out
     (first|subst eo27|(injection eo27 with f1_ f2_ f3_;have f4_:=f1_.symm;have f5_:=f3_.symm;clear f1_ f2_ f3_;subst f4_;subst f5_))
     refine hK.out _ _ ⟨(blk_cell BK433.out 0).trans rfl,(blk_cell BK433.out 1).trans rfl⟩ (fun hHeld => ?_)
     clear hK K
     refine norm_ (a':=?_) ?_ ?_
     rotate_left
     ·show Act.put _ (some 33) _ = _
      simp only [Act.put,List.setIfInBounds_toArray,List.set_cons_zero,List.set_cons_succ,i64_w,i32_w]
      rfl
     refine one_ (i:=5) (N:=some 35) #[true,true,true,true,true,true,false,false,false,true,false,false] rfl rfl (one_of HT_.out (by kernel_rfl)) (by decide) (fun K hK => ?_)
     refine goes_ Tryd.func33 (by kernel_rfl) rfl #[.slice Ao26 t436.length co26,.agg #[.int .i64 t439,.slice Ao27 t440.length co27],.int .i64 a2] (by rfl) rfl rfl (by (try simp only [List.map_toArray,List.map_cons,List.map_nil]);first|done|rfl|(simp only [List.length_drop,List.length_take];rfl)) ?_
     with_reducible refine (spec_YoungObject.calls k _ _ t436 t439 _ _ t440 a2 t443 t444 t447 _ ?side1 ?side2 ?side3 ?side4 A14.out).mono ?_
     (case side1 => repeat (first|exact (Kd.R_reads' HO438.out).2.2|(with_reducible first|refine Kd.C_alloc ?_ _|refine Kd.C_drewN ?_ _|refine Kd.C_drew ?_)))
     (case side2 => exact (Kd.R_reads' HO438.out).2.1)
     (case side3 => repeat (first|exact (Kd.R_reads' HO442.out).2.2|(with_reducible first|refine Kd.C_alloc ?_ _|refine Kd.C_drewN ?_ _|refine Kd.C_drew ?_)))
     (case side4 => exact (Kd.R_reads' HO442.out).2.1)
     rintro e w28 ⟨v445,rfl,ho0,hb⟩
     refine ⟨_,rfl,?_⟩
     have n0_:=am (Kd.R_below (kup HO438.out) hb)
     have n1_:=am (Kd.R_elder' (kup HO442.out) (Kd.R_base ho0) hb)
     have n2_:=am (Kd.R_lower (Kd.R_new' ho0 (Kd.R_lt (kup HO442.out))) (below_size (lup HB.out)))
     have n3_:=am (blk_below (bup BK433.out) hb)
     have n4_:=am (blk_below (bup BK448.out) hb)
     have n5_:=am (below_step (lup HB.out) hb)
     clear HO438
     clear HO442
     clear BK433
     clear BK448
     clear HB
     have HO438:=n0_
     have HO442:=n1_
     have HO446:=n2_
     have BK433:=n3_
     have BK448:=n4_
     have HB:=n5_
     clear n0_ n1_ n2_ n3_ n4_ n5_
     (try clear hb)
     (try clear hb2)
     (try clear hk)
     (try clear hi)
     (try clear ho0)
     refine hK.out _ _ ⟨(blk_cell BK433.out 0).trans rfl,(blk_cell BK433.out 1).trans rfl⟩ (fun hHeld => ?_)
     clear hK K
     refine norm_ (a':=?_) ?_ ?_
     rotate_left
     ·show Act.put _ (some 35) _ = _
      simp only [Act.put,List.setIfInBounds_toArray,List.set_cons_zero,List.set_cons_succ,i64_w,i32_w]
      rfl
     refine pure_ (i:=6) (N:=some 29) (v:=?_) (a':=?_) #[true,true,true,true,true,true,true,false,false,true,false,false] rfl rfl (any_of HT_.out (by kernel_rfl)) (fun _ _ _ h => h) (Or.inl ⟨by rfl,?_⟩) ?_ ?_
     rotate_left
     ·intro w'
      go_simp
      with_reducible rfl
     rotate_left
     ·simp only [Act.put,List.setIfInBounds_toArray,List.set_cons_zero,List.set_cons_succ,i64_w,i32_w]
      rfl
     refine pure_ (i:=7) (N:=some 36) (v:=?_) (a':=?_) #[true,true,true,true,true,true,true,true,false,true,false,false] rfl rfl (any_of HT_.out (by kernel_rfl)) (fun _ _ _ h => h) (Or.inl ⟨by rfl,?_⟩) ?_ ?_
     rotate_left
     ·intro w'
      go_simp
      with_reducible rfl
     rotate_left
     ·simp only [Act.put,List.setIfInBounds_toArray,List.set_cons_zero,List.set_cons_succ,i64_w,i32_w]
      rfl
     refine pure_ (i:=8) (N:=some 37) (v:=?_) (a':=?_) #[true,true,true,true,true,true,true,true,true,true,false,false] rfl rfl (any_of HT_.out (by kernel_rfl)) (fun _ _ _ h => h) (Or.inl ⟨by rfl,?_⟩) ?_ ?_
     rotate_left
     ·intro w'
      go_simp
      with_reducible rfl
     rotate_left
     ·simp only [Act.put,List.setIfInBounds_toArray,List.set_cons_zero,List.set_cons_succ,i64_w,i32_w]
      rfl
     exact norm_ (by simp only [putAll,Act.put,List.setIfInBounds_toArray,List.set_cons_zero,List.set_cons_succ]) (hCont (.slice Ao26 t436.length co26,.slice Ao27 t440.length co27,v445,gb448) _ ⟨hHeld,(kup HO438.out),(kup (Kd.R_mono HO442.out (fun _ hk => hk.2))),(kup (Kd.R_mono HO446.out (fun _ hk => hk.2))),(bup BK433.out),(bup BK448.out),GW448.out,GE448.out,NB433_448.out,NB448_433.out,(lup HB.out)⟩)
   rintro ⟨v437,v441,v445,gb448⟩ w29 ⟨hS_,h0_,h1_,h2_,h3_,h4_,h5_,h6_,h7_,h8_,h9_⟩
   have n0_ : Aside0 (Kd.R Kd.string 9 w29 w.heap.size (fun _ => True) v437 t436):=⟨h0_⟩
   have n1_ : Aside0 (Kd.R (Kd.int .i64) 2 w29 w.heap.size (fun k_ => some k_≠(v445 : Value).ownBlock) v441 t440):=⟨h1_⟩
   have n2_ : Aside0 (Kd.R (Kd.int .i64) 2 w29 w.heap.size (fun k_ => some k_≠(v441 : Value).ownBlock) v445 t444):=⟨h2_⟩
   have n3_ : Aside0 (w29.heap[gb433]? = some (.cells #[.int .i64 a1_0,.slice A1_1 l1_1.length c1_1] 25 (0,0))):=⟨h3_⟩
   have n4_ : Aside0 (w29.heap[gb448]? = some (.cells #[.int .i64 0,.slice none 0 0] 40 (0,0))):=⟨h4_⟩
   have n5_ : Aside0 (w.heap.size ≤ gb448):=⟨h5_⟩
   have n6_ : Aside0 (w.heap.size ≤ gb448):=⟨h6_⟩
   have n7_ : Aside0 (gb433≠gb448):=⟨h7_⟩
   have n8_ : Aside0 (gb448≠gb433):=⟨h8_⟩
   have n9_ : Aside0 (Below w.heap.size w w29):=⟨h9_⟩
   clear BK433
   clear HB
   clear h0_ h1_ h2_ h3_ h4_ h5_ h6_ h7_ h8_ h9_
   have HO438:=n0_
   have HO442:=n1_
   have HO446:=n2_
   have BK433:=n3_
   have BK448:=n4_
   have GW448:=n5_
   have GE448:=n6_
   have NB433_448:=n7_
   have NB448_433:=n8_
   have HB:=n9_
   clear n0_ n1_ n2_ n3_ n4_ n5_ n6_ n7_ n8_ n9_
   have hHeld : w29.cell? ⟨gb433,0,none⟩ = some (.int .i64 a1_0)∧w29.cell? ⟨gb433,1,none⟩ = some (.slice A1_1 l1_1.length c1_1):=hS_
   obtain ⟨Ao31,co31,eo31⟩:=Kd.R_slice HO446.out
   (first|subst eo31|(injection eo31 with f1_ f2_ f3_;have f4_:=f1_.symm;have f5_:=f3_.symm;clear f1_ f2_ f3_;subst f4_;subst f5_))
   refine norm_ (a':=?_) ?_ ?_
   rotate_left
   ·simp only [putAll,Act.put,List.setIfInBounds_toArray,List.set_cons_zero,List.set_cons_succ]
    rfl
   refine one_ (i:=10) (N:=none) #[true,true,true,true,true,true,true,true,true,true,true,false] rfl rfl (one_of HT_.out (by kernel_rfl)) (by decide) (fun K hK => ?_)
   have hs30 : w29.cell? ⟨gb448,0,none⟩ = some (.int .i64 0):=(blk_cell BK448.out 0).trans rfl
   have hfs30:=blk_frozen BK448.out 0
   have hns30_0:=NB433_448.out
   have hms30_0:=NB448_433.out
   have hs32 : w29.cell? ⟨gb448,1,none⟩ = some (.slice none 0 0):=(blk_cell BK448.out 1).trans rfl
   have hfs32:=blk_frozen BK448.out 1
   have hns32_0:=NB433_448.out
   have hms32_0:=NB448_433.out
   refine skip_ (w1:=?_) (by rfl) rfl ?_ ?_
   rotate_left
   ·go_simp
    rfl
   refine hK.out _ _ ⟨((cell_far (p:=⟨gb448,_,none⟩) NB433_448.out _).trans (((cell_far (p:=⟨gb448,_,none⟩) NB433_448.out _).trans (hHeld.1)))),((cell_far (p:=⟨gb448,_,none⟩) NB433_448.out _).trans (((cell_far (p:=⟨gb448,_,none⟩) NB433_448.out _).trans (hHeld.2))))⟩ (fun hHeld => ?_)
   clear hK K
   refine pure_ (i:=11) (N:=some 9) (v:=?_) (a':=?_) #[true,true,true,true,true,true,true,true,true,true,true,true] rfl rfl (any_of HT_.out (by kernel_rfl)) (fun _ _ _ h => h) (Or.inl ⟨by rfl,?_⟩) ?_ ?_
   rotate_left
   ·intro w'
    go_simp
    with_reducible rfl
   rotate_left
   ·simp only [Act.put,List.setIfInBounds_toArray,List.set_cons_zero,List.set_cons_succ,i64_w,i32_w]
    rfl
   refine done_ (done_of HT_.out (by kernel_rfl)) ?_
   go_upto_region 12 with (first|((with_reducible refine gate_callee (f:=19) rfl ?_);refine goesL_ (some 39) rfl rfl Tryd.func19 (by kernel_rfl) rfl #[.slice A0 l0.length c0] rfl (by (try simp only [List.map_toArray,List.map_cons,List.map_nil]);first|done|rfl|(simp only [List.length_drop,List.length_take];rfl)) ?_;(with_reducible refine (laws_toStringS.calls k _ _ l0 t449 _ ?side1 ?side2 A15.out).mono ?_);(case side1 => exact Kd.C_below HR0.out (by repeat (first|(with_reducible first|exact HB.out|apply below_alloc|apply pw_below_drewN|apply below_drew1|refine below_set ?_ GE433.out|refine below_set ?_ GE448.out)|exact HB.out)));(case side2 => exact HC0.out);rintro e w33 ⟨v450,rfl,ho0,hb⟩;refine ⟨_,rfl,?_⟩;have n0_:=am (Kd.R_elder' (by (with_reducible repeat (first|apply Kd.R_alloc|apply Kd.R_drewN|apply Kd.R_drew));exact (Kd.R_mono (Kd.R_far (p:=⟨gb448,1,none⟩) (Kd.R_far (p:=⟨gb448,0,none⟩) (Kd.R_types HO438.out BK448.out (by decide)) (fun _ hk => hk.2) (.int .i64 t443)) (fun _ hk => hk.2) (.slice Ao31 t444.length co31)) (fun _ h_ => h_.1))) (Kd.R_base ho0) hb);have n1_:=am (Kd.R_below (by (with_reducible repeat (first|apply Kd.R_alloc|apply Kd.R_drewN|apply Kd.R_drew));exact (Kd.R_mono (Kd.R_far (p:=⟨gb448,1,none⟩) (Kd.R_far (p:=⟨gb448,0,none⟩) (Kd.R_types HO442.out BK448.out (by decide)) (fun _ hk => hk.2) (.int .i64 t443)) (fun _ hk => hk.2) (.slice Ao31 t444.length co31)) (fun _ h_ => h_.1))) hb);have n2_:=am (Kd.R_below (by (with_reducible repeat (first|apply Kd.R_alloc|apply Kd.R_drewN|apply Kd.R_drew));exact (Kd.R_mono (Kd.R_far (p:=⟨gb448,1,none⟩) (Kd.R_far (p:=⟨gb448,0,none⟩) (Kd.R_types HO446.out BK448.out (by decide)) (fun _ hk => hk.2) (.int .i64 t443)) (fun _ hk => hk.2) (.slice Ao31 t444.length co31)) (fun _ h_ => h_.1))) hb);have n3_:=am (Kd.R_lower (Kd.R_new' ho0 (Kd.R_lt (by (with_reducible repeat (first|apply Kd.R_alloc|apply Kd.R_drewN|apply Kd.R_drew));exact (Kd.R_mono (Kd.R_far (p:=⟨gb448,1,none⟩) (Kd.R_far (p:=⟨gb448,0,none⟩) (Kd.R_types HO438.out BK448.out (by decide)) (fun _ hk => hk.2) (.int .i64 t443)) (fun _ hk => hk.2) (.slice Ao31 t444.length co31)) (fun _ h_ => h_.1))))) (below_size (by repeat (first|(with_reducible first|exact HB.out|apply below_alloc|apply pw_below_drewN|apply below_drew1|refine below_set ?_ GE433.out|refine below_set ?_ GE448.out)|exact HB.out))));have n4_:=am (blk_below (g:=gb433) (o:=.cells #[.int .i64 a1_0,.slice A1_1 l1_1.length c1_1] 25 (0,0)) (by (with_reducible repeat (first|refine blk_drewN ?_ _|refine blk_drew ?_|refine blk_alloc ?_ _));refine blk_far ?_ NB433_448.out _;(with_reducible repeat (first|refine blk_drewN ?_ _|refine blk_drew ?_|refine blk_alloc ?_ _));refine blk_far ?_ NB433_448.out _;(with_reducible repeat (first|refine blk_drewN ?_ _|refine blk_drew ?_|refine blk_alloc ?_ _));exact BK433.out) hb);have n5_:=am (blk_below (g:=gb448) (o:=.cells #[.int .i64 t443,.slice Ao31 t444.length co31] 40 (0,0)) (by (with_reducible repeat (first|refine blk_drewN ?_ _|refine blk_drew ?_|refine blk_alloc ?_ _));refine blk_put (cs:=#[.int .i64 t443,.slice none 0 0]) ?_ 1 _ rfl;(with_reducible repeat (first|refine blk_drewN ?_ _|refine blk_drew ?_|refine blk_alloc ?_ _));refine blk_put (cs:=#[.int .i64 0,.slice none 0 0]) ?_ 0 _ rfl;(with_reducible repeat (first|refine blk_drewN ?_ _|refine blk_drew ?_|refine blk_alloc ?_ _));exact BK448.out) hb);have n6_:=am (below_step (by repeat (first|(with_reducible first|exact HB.out|apply below_alloc|apply pw_below_drewN|apply below_drew1|refine below_set ?_ GE433.out|refine below_set ?_ GE448.out)|exact HB.out)) hb);clear HO438 HO442 HO446 BK433 BK448 HB;have HO438:=n0_;have HO442:=n1_;have HO446:=n2_;have HO451:=n3_;have BK433:=n4_;have BK448:=n5_;have HB:=n6_;clear n0_ n1_ n2_ n3_ n4_ n5_ n6_;(try clear hb);(try clear hb2);(try clear hk);(try clear hi);(try clear ho0);have hnb34:=NB433_448.out;have hnc34:=NB448_433.out;have hcz35_0 : w33.cell? ⟨gb433,0,none⟩ = some (.int .i64 a1_0):=(blk_cell BK433.out 0).trans rfl;have hcz35_1 : w33.cell? ⟨gb433,1,none⟩ = some (.slice A1_1 l1_1.length c1_1):=(blk_cell BK433.out 1).trans rfl;have hfz35_0:=blk_frozen BK433.out 0;have hfz35_1:=blk_frozen BK433.out 1)|((with_reducible refine gate_callee (f:=20) rfl ?_);refine goesL_ (some 41) rfl rfl Tryd.func20 (by kernel_rfl) rfl #[.agg #[.int .i64 a1_0,.slice A1_1 l1_1.length c1_1]] rfl (by (try simp only [List.map_toArray,List.map_cons,List.map_nil]);first|done|rfl|(simp only [List.length_drop,List.length_take];rfl)) ?_;(with_reducible refine (laws_toNursery.calls k a1_0 _ _ l1_1 t452 t453 _ ?side1 ?side2 A16.out).mono ?_);(case side1 => repeat (first|exact (Kd.C_below HR1_1.out HB.out)|(with_reducible first|refine Kd.C_alloc ?_ _|refine Kd.C_drewN ?_ _|refine Kd.C_drew ?_)));(case side2 => exact HC1_1.out);rintro e w36 ⟨v454,rfl,ho0,hb⟩;refine ⟨_,rfl,?_⟩;have n0_:=am (Kd.R_below (kup HO438.out) hb);have n1_:=am (Kd.R_elder' (kup HO442.out) (Kd.R_base ho0) hb);have n2_:=am (Kd.R_elder' (kup HO446.out) (Kd.R_base ho0) hb);have n3_:=am (Kd.R_below (kup HO451.out) hb);have n4_:=am (Kd.R_lower (Kd.R_new' (Kd.R_new' ho0 (Kd.R_lt (kup HO442.out))) (Kd.R_lt (kup HO446.out))) (below_size (by repeat (first|(with_reducible first|exact HB.out|apply below_alloc|apply pw_below_drewN|apply below_drew1|refine below_set ?_ GE433.out|refine below_set ?_ GE448.out)|exact HB.out))));have n5_:=am (blk_below (g:=gb433) (o:=.cells #[.int .i64 a1_0,.slice A1_1 l1_1.length c1_1] 25 (0,0)) (bup BK433.out) hb);have n6_:=am (blk_below (g:=gb448) (o:=.cells #[.int .i64 t443,.slice Ao31 t444.length co31] 40 (0,0)) (bup BK448.out) hb);have n7_:=am (below_step (by repeat (first|(with_reducible first|exact HB.out|apply below_alloc|apply pw_below_drewN|apply below_drew1|refine below_set ?_ GE433.out|refine below_set ?_ GE448.out)|exact HB.out)) hb);clear HO438 HO442 HO446 HO451 BK433 BK448 HB;have HO438:=n0_;have HO442:=n1_;have HO446:=n2_;have HO451:=n3_;have HO455:=n4_;have BK433:=n5_;have BK448:=n6_;have HB:=n7_;clear n0_ n1_ n2_ n3_ n4_ n5_ n6_ n7_;(try clear hb);(try clear hb2);(try clear hk);(try clear hi);(try clear ho0))|((with_reducible refine gate_dst (N:=11) rfl ?_);refine box_event ?hg (N:=11) ?hd (cs:=#[.int .i64 0,.slice none 0 0]) (t:=30) ?hr ?_;(case hd => rfl);(case hg => rfl);(case hr => first|(go_simp;done)|(go_simp;rfl));intro gb456 hg w37 hbox hb;have n0_:=am (Kd.R_below (kup HO438.out) hb);have n1_:=am (Kd.R_below (kup HO442.out) hb);have n2_:=am (Kd.R_below (kup HO446.out) hb);have n3_:=am (Kd.R_below (kup HO451.out) hb);have n4_:=am (Kd.R_below (kup HO455.out) hb);have n5_:=am (blk_below (g:=gb433) (o:=.cells #[.int .i64 a1_0,.slice A1_1 l1_1.length c1_1] 25 (0,0)) (bup BK433.out) hb);have n6_:=am (blk_below (g:=gb448) (o:=.cells #[.int .i64 t443,.slice Ao31 t444.length co31] 40 (0,0)) (bup BK448.out) hb);have n7_:=am (below_step (by repeat (first|(with_reducible first|exact HB.out|apply below_alloc|apply pw_below_drewN|apply below_drew1|refine below_set ?_ GE433.out|refine below_set ?_ GE448.out)|exact HB.out)) hb);have n8_:=am (hbox);have n9_:=am ((by rw [hg];exact (below_size (by repeat (first|(with_reducible first|exact HB.out|apply below_alloc|apply pw_below_drewN|apply below_drew1|refine below_set ?_ GE433.out|refine below_set ?_ GE448.out)|exact HB.out))) : w.heap.size ≤ gb456));have n10_:=am ((by rw [hg];exact (below_size (by repeat (first|(with_reducible first|exact HB.out|apply below_alloc|apply pw_below_drewN|apply below_drew1|refine below_set ?_ GE433.out|refine below_set ?_ GE448.out)|exact HB.out))) : w.heap.size ≤ gb456));have n11_:=am ((by rw [hg];exact Nat.ne_of_lt (blk_lt (g:=gb433) (o:=.cells #[.int .i64 a1_0,.slice A1_1 l1_1.length c1_1] 25 (0,0)) (bup BK433.out)) : gb433≠gb456));have n12_:=am ((by rw [hg];exact Nat.ne_of_gt (blk_lt (g:=gb433) (o:=.cells #[.int .i64 a1_0,.slice A1_1 l1_1.length c1_1] 25 (0,0)) (bup BK433.out)) : gb456≠gb433));have n13_:=am ((by rw [hg];exact Nat.ne_of_lt (blk_lt (g:=gb448) (o:=.cells #[.int .i64 t443,.slice Ao31 t444.length co31] 40 (0,0)) (bup BK448.out)) : gb448≠gb456));have n14_:=am ((by rw [hg];exact Nat.ne_of_gt (blk_lt (g:=gb448) (o:=.cells #[.int .i64 t443,.slice Ao31 t444.length co31] 40 (0,0)) (bup BK448.out)) : gb456≠gb448));clear HO438 HO442 HO446 HO451 HO455 BK433 BK448 HB;have HO438:=n0_;have HO442:=n1_;have HO446:=n2_;have HO451:=n3_;have HO455:=n4_;have BK433:=n5_;have BK448:=n6_;have HB:=n7_;have BK456:=n8_;have GW456:=n9_;have GE456:=n10_;have NB433_456:=n11_;have NB456_433:=n12_;have NB448_456:=n13_;have NB456_448:=n14_;clear n0_ n1_ n2_ n3_ n4_ n5_ n6_ n7_ n8_ n9_ n10_ n11_ n12_ n13_ n14_;clear hb hbox hg;have hnb38:=NB456_433.out;have hnc38:=NB433_456.out;have hnb39:=NB456_448.out;have hnc39:=NB448_456.out;have hcz40_0 : w37.cell? ⟨gb456,0,none⟩ = some (.int .i64 0):=(blk_cell BK456.out 0).trans rfl;have hcz40_1 : w37.cell? ⟨gb456,1,none⟩ = some (.slice none 0 0):=(blk_cell BK456.out 1).trans rfl;have hfz40_0:=blk_frozen BK456.out 0;have hfz40_1:=blk_frozen BK456.out 1;obtain ⟨Ao41,co41,eo41⟩:=Kd.R_slice HO455.out;subst eo41;obtain ⟨Ao42,co42,eo42⟩:=Kd.R_slice HO451.out;subst eo42)|((with_reducible refine gate_callee (f:=34) rfl ?_);refine goesL_ (some 46) rfl rfl Tryd.func34 (by kernel_rfl) rfl #[.slice Ao42 t449.length co42,.agg #[.int .i64 t452,.slice Ao41 t453.length co41],.int .i64 a2] rfl (by (try simp only [List.map_toArray,List.map_cons,List.map_nil]);first|done|rfl|(simp only [List.length_drop,List.length_take];rfl)) ?_;(with_reducible refine (impl_YoungObject.calls k _ _ t449 t452 _ _ t453 a2 t457 t458 t461 _ ?side1 ?side2 ?side3 ?side4 A17.out).mono ?_);(case side1 => refine (Kd.R_reads' (e:=9) (base:=w.heap.size) (ok:=fun k_ => (True∧some k_≠(v437 : Value).ownBlock)) (n:=t449.length) (c:=co42) ?_).2.2;exact (by (with_reducible repeat (first|apply Kd.R_alloc|apply Kd.R_drewN|apply Kd.R_drew));exact (Kd.R_mono (Kd.R_far (p:=⟨gb456,1,none⟩) (Kd.R_far (p:=⟨gb456,0,none⟩) (Kd.R_types HO451.out BK456.out (by decide)) (fun _ hk => hk.2) (.int .i64 t452)) (fun _ hk => hk.2) (.slice Ao41 t453.length co41)) (fun _ h_ => h_.1))));(case side2 => exact (Kd.R_reads' HO451.out).2.1);(case side3 => refine (Kd.R_reads' (e:=2) (base:=w.heap.size) (ok:=fun k_ => ((True∧some k_≠(v441 : Value).ownBlock)∧some k_≠(.slice Ao31 t444.length co31 : Value).ownBlock)) (n:=t453.length) (c:=co41) ?_).2.2;exact (by (with_reducible repeat (first|apply Kd.R_alloc|apply Kd.R_drewN|apply Kd.R_drew));exact (Kd.R_mono (Kd.R_far (p:=⟨gb456,1,none⟩) (Kd.R_far (p:=⟨gb456,0,none⟩) (Kd.R_types HO455.out BK456.out (by decide)) (fun _ hk => hk.2) (.int .i64 t452)) (fun _ hk => hk.2) (.slice Ao41 t453.length co41)) (fun _ h_ => h_.1))));(case side4 => exact (Kd.R_reads' HO455.out).2.1);rintro e w43 ⟨v459,rfl,ho0,hb⟩;refine ⟨_,rfl,?_⟩;have n0_:=am (Kd.R_below (by (with_reducible repeat (first|apply Kd.R_alloc|apply Kd.R_drewN|apply Kd.R_drew));exact (Kd.R_mono (Kd.R_far (p:=⟨gb456,1,none⟩) (Kd.R_far (p:=⟨gb456,0,none⟩) (Kd.R_types HO438.out BK456.out (by decide)) (fun _ hk => hk.2) (.int .i64 t452)) (fun _ hk => hk.2) (.slice Ao41 t453.length co41)) (fun _ h_ => h_.1))) hb);have n1_:=am (Kd.R_elder' (by (with_reducible repeat (first|apply Kd.R_alloc|apply Kd.R_drewN|apply Kd.R_drew));exact (Kd.R_mono (Kd.R_far (p:=⟨gb456,1,none⟩) (Kd.R_far (p:=⟨gb456,0,none⟩) (Kd.R_types HO442.out BK456.out (by decide)) (fun _ hk => hk.2) (.int .i64 t452)) (fun _ hk => hk.2) (.slice Ao41 t453.length co41)) (fun _ h_ => h_.1))) (Kd.R_base ho0) hb);have n2_:=am (Kd.R_elder' (by (with_reducible repeat (first|apply Kd.R_alloc|apply Kd.R_drewN|apply Kd.R_drew));exact (Kd.R_mono (Kd.R_far (p:=⟨gb456,1,none⟩) (Kd.R_far (p:=⟨gb456,0,none⟩) (Kd.R_types HO446.out BK456.out (by decide)) (fun _ hk => hk.2) (.int .i64 t452)) (fun _ hk => hk.2) (.slice Ao41 t453.length co41)) (fun _ h_ => h_.1))) (Kd.R_base ho0) hb);have n3_:=am (Kd.R_below (by (with_reducible repeat (first|apply Kd.R_alloc|apply Kd.R_drewN|apply Kd.R_drew));exact (Kd.R_mono (Kd.R_far (p:=⟨gb456,1,none⟩) (Kd.R_far (p:=⟨gb456,0,none⟩) (Kd.R_types HO451.out BK456.out (by decide)) (fun _ hk => hk.2) (.int .i64 t452)) (fun _ hk => hk.2) (.slice Ao41 t453.length co41)) (fun _ h_ => h_.1))) hb);have n4_:=am (Kd.R_elder' (by (with_reducible repeat (first|apply Kd.R_alloc|apply Kd.R_drewN|apply Kd.R_drew));exact (Kd.R_mono (Kd.R_far (p:=⟨gb456,1,none⟩) (Kd.R_far (p:=⟨gb456,0,none⟩) (Kd.R_types HO455.out BK456.out (by decide)) (fun _ hk => hk.2) (.int .i64 t452)) (fun _ hk => hk.2) (.slice Ao41 t453.length co41)) (fun _ h_ => h_.1))) (Kd.R_base ho0) hb);have n5_:=am (Kd.R_lower (Kd.R_new' (Kd.R_new' (Kd.R_new' ho0 (Kd.R_lt (by (with_reducible repeat (first|apply Kd.R_alloc|apply Kd.R_drewN|apply Kd.R_drew));exact (Kd.R_mono (Kd.R_far (p:=⟨gb456,1,none⟩) (Kd.R_far (p:=⟨gb456,0,none⟩) (Kd.R_types HO442.out BK456.out (by decide)) (fun _ hk => hk.2) (.int .i64 t452)) (fun _ hk => hk.2) (.slice Ao41 t453.length co41)) (fun _ h_ => h_.1))))) (Kd.R_lt (by (with_reducible repeat (first|apply Kd.R_alloc|apply Kd.R_drewN|apply Kd.R_drew));exact (Kd.R_mono (Kd.R_far (p:=⟨gb456,1,none⟩) (Kd.R_far (p:=⟨gb456,0,none⟩) (Kd.R_types HO446.out BK456.out (by decide)) (fun _ hk => hk.2) (.int .i64 t452)) (fun _ hk => hk.2) (.slice Ao41 t453.length co41)) (fun _ h_ => h_.1))))) (Kd.R_lt (by (with_reducible repeat (first|apply Kd.R_alloc|apply Kd.R_drewN|apply Kd.R_drew));exact (Kd.R_mono (Kd.R_far (p:=⟨gb456,1,none⟩) (Kd.R_far (p:=⟨gb456,0,none⟩) (Kd.R_types HO455.out BK456.out (by decide)) (fun _ hk => hk.2) (.int .i64 t452)) (fun _ hk => hk.2) (.slice Ao41 t453.length co41)) (fun _ h_ => h_.1))))) (below_size (by repeat (first|(with_reducible first|exact HB.out|apply below_alloc|apply pw_below_drewN|apply below_drew1|refine below_set ?_ GE433.out|refine below_set ?_ GE448.out|refine below_set ?_ GE456.out)|exact HB.out))));have n6_:=am (blk_below (g:=gb433) (o:=.cells #[.int .i64 a1_0,.slice A1_1 l1_1.length c1_1] 25 (0,0)) (by (with_reducible repeat (first|refine blk_drewN ?_ _|refine blk_drew ?_|refine blk_alloc ?_ _));refine blk_far ?_ NB433_456.out _;(with_reducible repeat (first|refine blk_drewN ?_ _|refine blk_drew ?_|refine blk_alloc ?_ _));refine blk_far ?_ NB433_456.out _;(with_reducible repeat (first|refine blk_drewN ?_ _|refine blk_drew ?_|refine blk_alloc ?_ _));exact BK433.out) hb);have n7_:=am (blk_below (g:=gb448) (o:=.cells #[.int .i64 t443,.slice Ao31 t444.length co31] 40 (0,0)) (by (with_reducible repeat (first|refine blk_drewN ?_ _|refine blk_drew ?_|refine blk_alloc ?_ _));refine blk_far ?_ NB448_456.out _;(with_reducible repeat (first|refine blk_drewN ?_ _|refine blk_drew ?_|refine blk_alloc ?_ _));refine blk_far ?_ NB448_456.out _;(with_reducible repeat (first|refine blk_drewN ?_ _|refine blk_drew ?_|refine blk_alloc ?_ _));exact BK448.out) hb);have n8_:=am (blk_below (g:=gb456) (o:=.cells #[.int .i64 t452,.slice Ao41 t453.length co41] 30 (0,0)) (by (with_reducible repeat (first|refine blk_drewN ?_ _|refine blk_drew ?_|refine blk_alloc ?_ _));refine blk_put (cs:=#[.int .i64 t452,.slice none 0 0]) ?_ 1 _ rfl;(with_reducible repeat (first|refine blk_drewN ?_ _|refine blk_drew ?_|refine blk_alloc ?_ _));refine blk_put (cs:=#[.int .i64 0,.slice none 0 0]) ?_ 0 _ rfl;(with_reducible repeat (first|refine blk_drewN ?_ _|refine blk_drew ?_|refine blk_alloc ?_ _));exact BK456.out) hb);have n9_:=am (below_step (by repeat (first|(with_reducible first|exact HB.out|apply below_alloc|apply pw_below_drewN|apply below_drew1|refine below_set ?_ GE433.out|refine below_set ?_ GE448.out|refine below_set ?_ GE456.out)|exact HB.out)) hb);clear HO438 HO442 HO446 HO451 HO455 BK433 BK448 BK456 HB;have HO438:=n0_;have HO442:=n1_;have HO446:=n2_;have HO451:=n3_;have HO455:=n4_;have HO460:=n5_;have BK433:=n6_;have BK448:=n7_;have BK456:=n8_;have HB:=n9_;clear n0_ n1_ n2_ n3_ n4_ n5_ n6_ n7_ n8_ n9_;(try clear hb);(try clear hb2);(try clear hk);(try clear hi);(try clear ho0))|((with_reducible refine gate_dst (N:=12) rfl ?_);refine box_event ?hg (N:=12) ?hd (cs:=#[.int .i64 0,.slice none 0 0]) (t:=40) ?hr ?_;(case hd => rfl);(case hg => rfl);(case hr => first|(go_simp;done)|(go_simp;rfl));intro gb462 hg w44 hbox hb;have n0_:=am (Kd.R_below (kup HO438.out) hb);have n1_:=am (Kd.R_below (kup HO442.out) hb);have n2_:=am (Kd.R_below (kup HO446.out) hb);have n3_:=am (Kd.R_below (kup HO451.out) hb);have n4_:=am (Kd.R_below (kup HO455.out) hb);have n5_:=am (Kd.R_below (kup HO460.out) hb);have n6_:=am (blk_below (g:=gb433) (o:=.cells #[.int .i64 a1_0,.slice A1_1 l1_1.length c1_1] 25 (0,0)) (bup BK433.out) hb);have n7_:=am (blk_below (g:=gb448) (o:=.cells #[.int .i64 t443,.slice Ao31 t444.length co31] 40 (0,0)) (bup BK448.out) hb);have n8_:=am (blk_below (g:=gb456) (o:=.cells #[.int .i64 t452,.slice Ao41 t453.length co41] 30 (0,0)) (bup BK456.out) hb);have n9_:=am (below_step (by repeat (first|(with_reducible first|exact HB.out|apply below_alloc|apply pw_below_drewN|apply below_drew1|refine below_set ?_ GE433.out|refine below_set ?_ GE448.out|refine below_set ?_ GE456.out)|exact HB.out)) hb);have n10_:=am (hbox);have n11_:=am ((by rw [hg];exact (below_size (by repeat (first|(with_reducible first|exact HB.out|apply below_alloc|apply pw_below_drewN|apply below_drew1|refine below_set ?_ GE433.out|refine below_set ?_ GE448.out|refine below_set ?_ GE456.out)|exact HB.out))) : w.heap.size ≤ gb462));have n12_:=am ((by rw [hg];exact (below_size (by repeat (first|(with_reducible first|exact HB.out|apply below_alloc|apply pw_below_drewN|apply below_drew1|refine below_set ?_ GE433.out|refine below_set ?_ GE448.out|refine below_set ?_ GE456.out)|exact HB.out))) : w.heap.size ≤ gb462));have n13_:=am ((by rw [hg];exact Nat.ne_of_lt (blk_lt (g:=gb433) (o:=.cells #[.int .i64 a1_0,.slice A1_1 l1_1.length c1_1] 25 (0,0)) (bup BK433.out)) : gb433≠gb462));have n14_:=am ((by rw [hg];exact Nat.ne_of_gt (blk_lt (g:=gb433) (o:=.cells #[.int .i64 a1_0,.slice A1_1 l1_1.length c1_1] 25 (0,0)) (bup BK433.out)) : gb462≠gb433));have n15_:=am ((by rw [hg];exact Nat.ne_of_lt (blk_lt (g:=gb448) (o:=.cells #[.int .i64 t443,.slice Ao31 t444.length co31] 40 (0,0)) (bup BK448.out)) : gb448≠gb462));have n16_:=am ((by rw [hg];exact Nat.ne_of_gt (blk_lt (g:=gb448) (o:=.cells #[.int .i64 t443,.slice Ao31 t444.length co31] 40 (0,0)) (bup BK448.out)) : gb462≠gb448));have n17_:=am ((by rw [hg];exact Nat.ne_of_lt (blk_lt (g:=gb456) (o:=.cells #[.int .i64 t452,.slice Ao41 t453.length co41] 30 (0,0)) (bup BK456.out)) : gb456≠gb462));have n18_:=am ((by rw [hg];exact Nat.ne_of_gt (blk_lt (g:=gb456) (o:=.cells #[.int .i64 t452,.slice Ao41 t453.length co41] 30 (0,0)) (bup BK456.out)) : gb462≠gb456));clear HO438 HO442 HO446 HO451 HO455 HO460 BK433 BK448 BK456 HB;have HO438:=n0_;have HO442:=n1_;have HO446:=n2_;have HO451:=n3_;have HO455:=n4_;have HO460:=n5_;have BK433:=n6_;have BK448:=n7_;have BK456:=n8_;have HB:=n9_;have BK462:=n10_;have GW462:=n11_;have GE462:=n12_;have NB433_462:=n13_;have NB462_433:=n14_;have NB448_462:=n15_;have NB462_448:=n16_;have NB456_462:=n17_;have NB462_456:=n18_;clear n0_ n1_ n2_ n3_ n4_ n5_ n6_ n7_ n8_ n9_ n10_ n11_ n12_ n13_ n14_ n15_ n16_ n17_ n18_;clear hb hbox hg;have hnb45:=NB462_433.out;have hnc45:=NB433_462.out;have hnb46:=NB462_448.out;have hnc46:=NB448_462.out;have hnb47:=NB462_456.out;have hnc47:=NB456_462.out;have hcz48_0 : w44.cell? ⟨gb462,0,none⟩ = some (.int .i64 0):=(blk_cell BK462.out 0).trans rfl;have hcz48_1 : w44.cell? ⟨gb462,1,none⟩ = some (.slice none 0 0):=(blk_cell BK462.out 1).trans rfl;have hfz48_0:=blk_frozen BK462.out 0;have hfz48_1:=blk_frozen BK462.out 1;obtain ⟨Ao49,co49,eo49⟩:=Kd.R_slice HO460.out;subst eo49))
   (try simp only [Act.put,List.setIfInBounds_toArray,List.set_cons_zero,List.set_cons_succ])
   go_cut [57] (fun v57 wc => ∃ (kq : Nat) (x57_17 : Bool),v57 = .bool x57_17∧Aside0 (laws_FnExactYoungObject.j0 kq l0 a2 t447 t449 t461 x57_17 a1_0 l1_1 t443 t444 t452 t453 t457 t458 = some r)∧Aside0 (kq ≤ k)∧Aside0 (Kd.R Kd.string 9 wc w.heap.size (fun _ => True) (.slice Ao42 t449.length co42) t449)∧Aside0 (Kd.R (Kd.int .i64) 2 wc w.heap.size (fun k_ => some k_≠((.slice Ao41 t453.length co41) : Value).ownBlock∧some k_≠((.slice Ao49 t458.length co49) : Value).ownBlock) (.slice Ao31 t444.length co31) t444)∧Aside0 (Kd.R (Kd.int .i64) 2 wc w.heap.size (fun k_ => some k_≠((.slice Ao31 t444.length co31) : Value).ownBlock∧some k_≠((.slice Ao49 t458.length co49) : Value).ownBlock) (.slice Ao41 t453.length co41) t453)∧Aside0 (Kd.R (Kd.int .i64) 2 wc w.heap.size (fun k_ => some k_≠((.slice Ao31 t444.length co31) : Value).ownBlock∧some k_≠((.slice Ao41 t453.length co41) : Value).ownBlock) (.slice Ao49 t458.length co49) t458)∧Aside0 (wc.heap[gb433]? = some (.cells #[.int .i64 a1_0,(.slice A1_1 l1_1.length c1_1)] 25 (0,0)))∧Aside0 (wc.heap[gb448]? = some (.cells #[.int .i64 t443,(.slice Ao31 t444.length co31)] 40 (0,0)))∧Aside0 (wc.heap[gb456]? = some (.cells #[.int .i64 t452,(.slice Ao41 t453.length co41)] 30 (0,0)))∧Aside0 (wc.heap[gb462]? = some (.cells #[.int .i64 t457,(.slice Ao49 t458.length co49)] 40 (0,0)))∧Aside0 (Below w.heap.size w wc))
   case first =>
    have H:=HC18.out
    clear HC18
    replace H:=Option.bind_eq_some_iff.mp H
    obtain ⟨t463,A500,H⟩:=H
    replace H : (if t463 = true then (laws_FnExactYoungObject.j0 k l0 a2 t447 t449 t461 (t461 != t447) a1_0 l1_1 t443 t444 t452 t453 t457 t458) else (laws_FnExactYoungObject.j0 k l0 a2 t447 t449 t461 true a1_0 l1_1 t443 t444 t452 t453 t457 t458)) = some r:=H
    have A50:=am A500
    clear A500
    by_cases c51 : t463 = true
    ·subst c51
     have H1 : (laws_FnExactYoungObject.j0 k l0 a2 t447 t449 t461 (t461 != t447) a1_0 l1_1 t443 t444 t452 t453 t457 t458) = some r:=by rw [if_pos rfl] at H;exact H
     clear H
     have H:=H1
     clear H1
     have H':=am H
     clear H
     have hnb52:=NB462_433.out
     have hnc52:=NB433_462.out
     have hnb53:=NB462_448.out
     have hnc53:=NB448_462.out
     have hnb54:=NB462_456.out
     have hnc54:=NB456_462.out
     have hcz55_0 : w44.cell? ⟨gb462,0,none⟩ = some (.int .i64 0):=(blk_cell BK462.out 0).trans rfl
     have hcz55_1 : w44.cell? ⟨gb462,1,none⟩ = some (.slice none 0 0):=(blk_cell BK462.out 1).trans rfl
     have hfz55_0:=blk_frozen BK462.out 0
     have hfz55_1:=blk_frozen BK462.out 1
     have hnb56:=NB448_433.out
     have hnc56:=NB433_448.out
     have hnb57:=NB448_456.out
     have hnc57:=NB456_448.out
     have hcz58_0 : w44.cell? ⟨gb448,0,none⟩ = some (.int .i64 t443):=(blk_cell BK448.out 0).trans rfl
     have hcz58_1 : w44.cell? ⟨gb448,1,none⟩ = some (.slice Ao31 t444.length co31):=(blk_cell BK448.out 1).trans rfl
     have hfz58_0:=blk_frozen BK448.out 0
     have hfz58_1:=blk_frozen BK448.out 1
     go_wp2_with (first|((with_reducible refine gate_callee (f:=35) rfl ?_);refine goesL_ (some 51) rfl rfl Tryd.func35 (by kernel_rfl) rfl #[.agg #[.int .i64 t457,.slice Ao49 t458.length co49],.agg #[.int .i64 t443,.slice Ao31 t444.length co31]] rfl (by (try simp only [List.map_toArray,List.map_cons,List.map_nil]);first|done|rfl|(simp only [List.length_drop,List.length_take];rfl)) ?_;(with_reducible refine (laws_eqObj.calls k t457 _ _ t458 t443 _ _ t444 true _ ?side1 ?side2 ?side3 ?side4 A50.out).mono ?_);(case side1 => refine (Kd.R_reads' (e:=2) (base:=w.heap.size) (ok:=fun k_ => (((True∧some k_≠(v441 : Value).ownBlock)∧some k_≠(.slice Ao31 t444.length co31 : Value).ownBlock)∧some k_≠(.slice Ao41 t453.length co41 : Value).ownBlock)) (n:=t458.length) (c:=co49) ?_).2.2;exact (by (with_reducible repeat (first|apply Kd.R_alloc|apply Kd.R_drewN|apply Kd.R_drew));exact (Kd.R_mono (Kd.R_far (p:=⟨gb462,1,none⟩) (Kd.R_far (p:=⟨gb462,0,none⟩) (Kd.R_types HO460.out BK462.out (by decide)) (fun _ hk => hk.2) (.int .i64 t457)) (fun _ hk => hk.2) (.slice Ao49 t458.length co49)) (fun _ h_ => h_.1))));(case side2 => exact (Kd.R_reads' HO460.out).2.1);(case side3 => refine (Kd.R_reads' (e:=2) (base:=w.heap.size) (ok:=fun k_ => ((some k_≠(v441 : Value).ownBlock∧some k_≠(.slice Ao41 t453.length co41 : Value).ownBlock)∧some k_≠(.slice Ao49 t458.length co49 : Value).ownBlock)) (n:=t444.length) (c:=co31) ?_).2.2;exact (by (with_reducible repeat (first|apply Kd.R_alloc|apply Kd.R_drewN|apply Kd.R_drew));exact (Kd.R_mono (Kd.R_far (p:=⟨gb462,1,none⟩) (Kd.R_far (p:=⟨gb462,0,none⟩) (Kd.R_types HO446.out BK462.out (by decide)) (fun _ hk => hk.2) (.int .i64 t457)) (fun _ hk => hk.2) (.slice Ao49 t458.length co49)) (fun _ h_ => h_.1))));(case side4 => exact (Kd.R_reads' HO446.out).2.1);rintro e w59 ⟨rfl,hb⟩;refine ⟨_,rfl,?_⟩;have n0_:=am (Kd.R_below (by (with_reducible repeat (first|apply Kd.R_alloc|apply Kd.R_drewN|apply Kd.R_drew));exact (Kd.R_mono (Kd.R_far (p:=⟨gb462,1,none⟩) (Kd.R_far (p:=⟨gb462,0,none⟩) (Kd.R_types HO438.out BK462.out (by decide)) (fun _ hk => hk.2) (.int .i64 t457)) (fun _ hk => hk.2) (.slice Ao49 t458.length co49)) (fun _ h_ => h_.1))) hb);have n1_:=am (Kd.R_below (by (with_reducible repeat (first|apply Kd.R_alloc|apply Kd.R_drewN|apply Kd.R_drew));exact (Kd.R_mono (Kd.R_far (p:=⟨gb462,1,none⟩) (Kd.R_far (p:=⟨gb462,0,none⟩) (Kd.R_types HO442.out BK462.out (by decide)) (fun _ hk => hk.2) (.int .i64 t457)) (fun _ hk => hk.2) (.slice Ao49 t458.length co49)) (fun _ h_ => h_.1))) hb);have n2_:=am (Kd.R_below (by (with_reducible repeat (first|apply Kd.R_alloc|apply Kd.R_drewN|apply Kd.R_drew));exact (Kd.R_mono (Kd.R_far (p:=⟨gb462,1,none⟩) (Kd.R_far (p:=⟨gb462,0,none⟩) (Kd.R_types HO446.out BK462.out (by decide)) (fun _ hk => hk.2) (.int .i64 t457)) (fun _ hk => hk.2) (.slice Ao49 t458.length co49)) (fun _ h_ => h_.1))) hb);have n3_:=am (Kd.R_below (by (with_reducible repeat (first|apply Kd.R_alloc|apply Kd.R_drewN|apply Kd.R_drew));exact (Kd.R_mono (Kd.R_far (p:=⟨gb462,1,none⟩) (Kd.R_far (p:=⟨gb462,0,none⟩) (Kd.R_types HO451.out BK462.out (by decide)) (fun _ hk => hk.2) (.int .i64 t457)) (fun _ hk => hk.2) (.slice Ao49 t458.length co49)) (fun _ h_ => h_.1))) hb);have n4_:=am (Kd.R_below (by (with_reducible repeat (first|apply Kd.R_alloc|apply Kd.R_drewN|apply Kd.R_drew));exact (Kd.R_mono (Kd.R_far (p:=⟨gb462,1,none⟩) (Kd.R_far (p:=⟨gb462,0,none⟩) (Kd.R_types HO455.out BK462.out (by decide)) (fun _ hk => hk.2) (.int .i64 t457)) (fun _ hk => hk.2) (.slice Ao49 t458.length co49)) (fun _ h_ => h_.1))) hb);have n5_:=am (Kd.R_below (by (with_reducible repeat (first|apply Kd.R_alloc|apply Kd.R_drewN|apply Kd.R_drew));exact (Kd.R_mono (Kd.R_far (p:=⟨gb462,1,none⟩) (Kd.R_far (p:=⟨gb462,0,none⟩) (Kd.R_types HO460.out BK462.out (by decide)) (fun _ hk => hk.2) (.int .i64 t457)) (fun _ hk => hk.2) (.slice Ao49 t458.length co49)) (fun _ h_ => h_.1))) hb);have n6_:=am (blk_below (g:=gb433) (o:=.cells #[.int .i64 a1_0,.slice A1_1 l1_1.length c1_1] 25 (0,0)) (by (with_reducible repeat (first|refine blk_drewN ?_ _|refine blk_drew ?_|refine blk_alloc ?_ _));refine blk_far ?_ NB433_462.out _;(with_reducible repeat (first|refine blk_drewN ?_ _|refine blk_drew ?_|refine blk_alloc ?_ _));refine blk_far ?_ NB433_462.out _;(with_reducible repeat (first|refine blk_drewN ?_ _|refine blk_drew ?_|refine blk_alloc ?_ _));exact BK433.out) hb);have n7_:=am (blk_below (g:=gb448) (o:=.cells #[.int .i64 t443,.slice Ao31 t444.length co31] 40 (0,0)) (by (with_reducible repeat (first|refine blk_drewN ?_ _|refine blk_drew ?_|refine blk_alloc ?_ _));refine blk_far ?_ NB448_462.out _;(with_reducible repeat (first|refine blk_drewN ?_ _|refine blk_drew ?_|refine blk_alloc ?_ _));refine blk_far ?_ NB448_462.out _;(with_reducible repeat (first|refine blk_drewN ?_ _|refine blk_drew ?_|refine blk_alloc ?_ _));exact BK448.out) hb);have n8_:=am (blk_below (g:=gb456) (o:=.cells #[.int .i64 t452,.slice Ao41 t453.length co41] 30 (0,0)) (by (with_reducible repeat (first|refine blk_drewN ?_ _|refine blk_drew ?_|refine blk_alloc ?_ _));refine blk_far ?_ NB456_462.out _;(with_reducible repeat (first|refine blk_drewN ?_ _|refine blk_drew ?_|refine blk_alloc ?_ _));refine blk_far ?_ NB456_462.out _;(with_reducible repeat (first|refine blk_drewN ?_ _|refine blk_drew ?_|refine blk_alloc ?_ _));exact BK456.out) hb);have n9_:=am (blk_below (g:=gb462) (o:=.cells #[.int .i64 t457,.slice Ao49 t458.length co49] 40 (0,0)) (by (with_reducible repeat (first|refine blk_drewN ?_ _|refine blk_drew ?_|refine blk_alloc ?_ _));refine blk_put (cs:=#[.int .i64 t457,.slice none 0 0]) ?_ 1 _ rfl;(with_reducible repeat (first|refine blk_drewN ?_ _|refine blk_drew ?_|refine blk_alloc ?_ _));refine blk_put (cs:=#[.int .i64 0,.slice none 0 0]) ?_ 0 _ rfl;(with_reducible repeat (first|refine blk_drewN ?_ _|refine blk_drew ?_|refine blk_alloc ?_ _));exact BK462.out) hb);have n10_:=am (below_step (by repeat (first|(with_reducible first|exact HB.out|apply below_alloc|apply pw_below_drewN|apply below_drew1|refine below_set ?_ GE433.out|refine below_set ?_ GE448.out|refine below_set ?_ GE456.out|refine below_set ?_ GE462.out)|exact HB.out)) hb);clear HO438 HO442 HO446 HO451 HO455 HO460 BK433 BK448 BK456 BK462 HB;have HO438:=n0_;have HO442:=n1_;have HO446:=n2_;have HO451:=n3_;have HO455:=n4_;have HO460:=n5_;have BK433:=n6_;have BK448:=n7_;have BK456:=n8_;have BK462:=n9_;have HB:=n10_;clear n0_ n1_ n2_ n3_ n4_ n5_ n6_ n7_ n8_ n9_ n10_;(try clear hb);(try clear hb2);(try clear hk);(try clear hi)))
     go_meet
     case rel => exact ⟨_,((t461 != t447)),(by first|rfl|(simp;done)|(simp [*];done)),H',⟨by first|omega|exact Nat.le_refl _⟩,⟨kup (Kd.R_mono HO451.out (fun _ hk => trivial))⟩,⟨kup (Kd.R_mono HO446.out (fun _ hk => ⟨hk.1.2,hk.2⟩))⟩,⟨kup (Kd.R_mono HO455.out (fun _ hk => ⟨hk.1.2,hk.2⟩))⟩,⟨kup (Kd.R_mono HO460.out (fun _ hk => ⟨hk.1.2,hk.2⟩))⟩,⟨bup BK433.out⟩,⟨bup BK448.out⟩,⟨bup BK456.out⟩,⟨bup BK462.out⟩,⟨lup HB.out⟩⟩
    ·replace c51:=Bool.eq_false_iff.mpr c51
     subst c51
     have H1 : (laws_FnExactYoungObject.j0 k l0 a2 t447 t449 t461 true a1_0 l1_1 t443 t444 t452 t453 t457 t458) = some r:=by rw [if_neg (show ¬ (false = true) by decide)] at H;exact H
     clear H
     have H:=H1
     clear H1
     have H':=am H
     clear H
     have hnb60:=NB462_433.out
     have hnc60:=NB433_462.out
     have hnb61:=NB462_448.out
     have hnc61:=NB448_462.out
     have hnb62:=NB462_456.out
     have hnc62:=NB456_462.out
     have hcz63_0 : w44.cell? ⟨gb462,0,none⟩ = some (.int .i64 0):=(blk_cell BK462.out 0).trans rfl
     have hcz63_1 : w44.cell? ⟨gb462,1,none⟩ = some (.slice none 0 0):=(blk_cell BK462.out 1).trans rfl
     have hfz63_0:=blk_frozen BK462.out 0
     have hfz63_1:=blk_frozen BK462.out 1
     have hnb64:=NB448_433.out
     have hnc64:=NB433_448.out
     have hnb65:=NB448_456.out
     have hnc65:=NB456_448.out
     have hcz66_0 : w44.cell? ⟨gb448,0,none⟩ = some (.int .i64 t443):=(blk_cell BK448.out 0).trans rfl
     have hcz66_1 : w44.cell? ⟨gb448,1,none⟩ = some (.slice Ao31 t444.length co31):=(blk_cell BK448.out 1).trans rfl
     have hfz66_0:=blk_frozen BK448.out 0
     have hfz66_1:=blk_frozen BK448.out 1
     go_wp2_with (first|((with_reducible refine gate_callee (f:=35) rfl ?_);refine goesL_ (some 51) rfl rfl Tryd.func35 (by kernel_rfl) rfl #[.agg #[.int .i64 t457,.slice Ao49 t458.length co49],.agg #[.int .i64 t443,.slice Ao31 t444.length co31]] rfl (by (try simp only [List.map_toArray,List.map_cons,List.map_nil]);first|done|rfl|(simp only [List.length_drop,List.length_take];rfl)) ?_;(with_reducible refine (laws_eqObj.calls k t457 _ _ t458 t443 _ _ t444 false _ ?side1 ?side2 ?side3 ?side4 A50.out).mono ?_);(case side1 => refine (Kd.R_reads' (e:=2) (base:=w.heap.size) (ok:=fun k_ => (((True∧some k_≠(v441 : Value).ownBlock)∧some k_≠(.slice Ao31 t444.length co31 : Value).ownBlock)∧some k_≠(.slice Ao41 t453.length co41 : Value).ownBlock)) (n:=t458.length) (c:=co49) ?_).2.2;exact (by (with_reducible repeat (first|apply Kd.R_alloc|apply Kd.R_drewN|apply Kd.R_drew));exact (Kd.R_mono (Kd.R_far (p:=⟨gb462,1,none⟩) (Kd.R_far (p:=⟨gb462,0,none⟩) (Kd.R_types HO460.out BK462.out (by decide)) (fun _ hk => hk.2) (.int .i64 t457)) (fun _ hk => hk.2) (.slice Ao49 t458.length co49)) (fun _ h_ => h_.1))));(case side2 => exact (Kd.R_reads' HO460.out).2.1);(case side3 => refine (Kd.R_reads' (e:=2) (base:=w.heap.size) (ok:=fun k_ => ((some k_≠(v441 : Value).ownBlock∧some k_≠(.slice Ao41 t453.length co41 : Value).ownBlock)∧some k_≠(.slice Ao49 t458.length co49 : Value).ownBlock)) (n:=t444.length) (c:=co31) ?_).2.2;exact (by (with_reducible repeat (first|apply Kd.R_alloc|apply Kd.R_drewN|apply Kd.R_drew));exact (Kd.R_mono (Kd.R_far (p:=⟨gb462,1,none⟩) (Kd.R_far (p:=⟨gb462,0,none⟩) (Kd.R_types HO446.out BK462.out (by decide)) (fun _ hk => hk.2) (.int .i64 t457)) (fun _ hk => hk.2) (.slice Ao49 t458.length co49)) (fun _ h_ => h_.1))));(case side4 => exact (Kd.R_reads' HO446.out).2.1);rintro e w67 ⟨rfl,hb⟩;refine ⟨_,rfl,?_⟩;have n0_:=am (Kd.R_below (by (with_reducible repeat (first|apply Kd.R_alloc|apply Kd.R_drewN|apply Kd.R_drew));exact (Kd.R_mono (Kd.R_far (p:=⟨gb462,1,none⟩) (Kd.R_far (p:=⟨gb462,0,none⟩) (Kd.R_types HO438.out BK462.out (by decide)) (fun _ hk => hk.2) (.int .i64 t457)) (fun _ hk => hk.2) (.slice Ao49 t458.length co49)) (fun _ h_ => h_.1))) hb);have n1_:=am (Kd.R_below (by (with_reducible repeat (first|apply Kd.R_alloc|apply Kd.R_drewN|apply Kd.R_drew));exact (Kd.R_mono (Kd.R_far (p:=⟨gb462,1,none⟩) (Kd.R_far (p:=⟨gb462,0,none⟩) (Kd.R_types HO442.out BK462.out (by decide)) (fun _ hk => hk.2) (.int .i64 t457)) (fun _ hk => hk.2) (.slice Ao49 t458.length co49)) (fun _ h_ => h_.1))) hb);have n2_:=am (Kd.R_below (by (with_reducible repeat (first|apply Kd.R_alloc|apply Kd.R_drewN|apply Kd.R_drew));exact (Kd.R_mono (Kd.R_far (p:=⟨gb462,1,none⟩) (Kd.R_far (p:=⟨gb462,0,none⟩) (Kd.R_types HO446.out BK462.out (by decide)) (fun _ hk => hk.2) (.int .i64 t457)) (fun _ hk => hk.2) (.slice Ao49 t458.length co49)) (fun _ h_ => h_.1))) hb);have n3_:=am (Kd.R_below (by (with_reducible repeat (first|apply Kd.R_alloc|apply Kd.R_drewN|apply Kd.R_drew));exact (Kd.R_mono (Kd.R_far (p:=⟨gb462,1,none⟩) (Kd.R_far (p:=⟨gb462,0,none⟩) (Kd.R_types HO451.out BK462.out (by decide)) (fun _ hk => hk.2) (.int .i64 t457)) (fun _ hk => hk.2) (.slice Ao49 t458.length co49)) (fun _ h_ => h_.1))) hb);have n4_:=am (Kd.R_below (by (with_reducible repeat (first|apply Kd.R_alloc|apply Kd.R_drewN|apply Kd.R_drew));exact (Kd.R_mono (Kd.R_far (p:=⟨gb462,1,none⟩) (Kd.R_far (p:=⟨gb462,0,none⟩) (Kd.R_types HO455.out BK462.out (by decide)) (fun _ hk => hk.2) (.int .i64 t457)) (fun _ hk => hk.2) (.slice Ao49 t458.length co49)) (fun _ h_ => h_.1))) hb);have n5_:=am (Kd.R_below (by (with_reducible repeat (first|apply Kd.R_alloc|apply Kd.R_drewN|apply Kd.R_drew));exact (Kd.R_mono (Kd.R_far (p:=⟨gb462,1,none⟩) (Kd.R_far (p:=⟨gb462,0,none⟩) (Kd.R_types HO460.out BK462.out (by decide)) (fun _ hk => hk.2) (.int .i64 t457)) (fun _ hk => hk.2) (.slice Ao49 t458.length co49)) (fun _ h_ => h_.1))) hb);have n6_:=am (blk_below (g:=gb433) (o:=.cells #[.int .i64 a1_0,.slice A1_1 l1_1.length c1_1] 25 (0,0)) (by (with_reducible repeat (first|refine blk_drewN ?_ _|refine blk_drew ?_|refine blk_alloc ?_ _));refine blk_far ?_ NB433_462.out _;(with_reducible repeat (first|refine blk_drewN ?_ _|refine blk_drew ?_|refine blk_alloc ?_ _));refine blk_far ?_ NB433_462.out _;(with_reducible repeat (first|refine blk_drewN ?_ _|refine blk_drew ?_|refine blk_alloc ?_ _));exact BK433.out) hb);have n7_:=am (blk_below (g:=gb448) (o:=.cells #[.int .i64 t443,.slice Ao31 t444.length co31] 40 (0,0)) (by (with_reducible repeat (first|refine blk_drewN ?_ _|refine blk_drew ?_|refine blk_alloc ?_ _));refine blk_far ?_ NB448_462.out _;(with_reducible repeat (first|refine blk_drewN ?_ _|refine blk_drew ?_|refine blk_alloc ?_ _));refine blk_far ?_ NB448_462.out _;(with_reducible repeat (first|refine blk_drewN ?_ _|refine blk_drew ?_|refine blk_alloc ?_ _));exact BK448.out) hb);have n8_:=am (blk_below (g:=gb456) (o:=.cells #[.int .i64 t452,.slice Ao41 t453.length co41] 30 (0,0)) (by (with_reducible repeat (first|refine blk_drewN ?_ _|refine blk_drew ?_|refine blk_alloc ?_ _));refine blk_far ?_ NB456_462.out _;(with_reducible repeat (first|refine blk_drewN ?_ _|refine blk_drew ?_|refine blk_alloc ?_ _));refine blk_far ?_ NB456_462.out _;(with_reducible repeat (first|refine blk_drewN ?_ _|refine blk_drew ?_|refine blk_alloc ?_ _));exact BK456.out) hb);have n9_:=am (blk_below (g:=gb462) (o:=.cells #[.int .i64 t457,.slice Ao49 t458.length co49] 40 (0,0)) (by (with_reducible repeat (first|refine blk_drewN ?_ _|refine blk_drew ?_|refine blk_alloc ?_ _));refine blk_put (cs:=#[.int .i64 t457,.slice none 0 0]) ?_ 1 _ rfl;(with_reducible repeat (first|refine blk_drewN ?_ _|refine blk_drew ?_|refine blk_alloc ?_ _));refine blk_put (cs:=#[.int .i64 0,.slice none 0 0]) ?_ 0 _ rfl;(with_reducible repeat (first|refine blk_drewN ?_ _|refine blk_drew ?_|refine blk_alloc ?_ _));exact BK462.out) hb);have n10_:=am (below_step (by repeat (first|(with_reducible first|exact HB.out|apply below_alloc|apply pw_below_drewN|apply below_drew1|refine below_set ?_ GE433.out|refine below_set ?_ GE448.out|refine below_set ?_ GE456.out|refine below_set ?_ GE462.out)|exact HB.out)) hb);clear HO438 HO442 HO446 HO451 HO455 HO460 BK433 BK448 BK456 BK462 HB;have HO438:=n0_;have HO442:=n1_;have HO446:=n2_;have HO451:=n3_;have HO455:=n4_;have HO460:=n5_;have BK433:=n6_;have BK448:=n7_;have BK456:=n8_;have BK462:=n9_;have HB:=n10_;clear n0_ n1_ n2_ n3_ n4_ n5_ n6_ n7_ n8_ n9_ n10_;(try clear hb);(try clear hb2);(try clear hk);(try clear hi)))
     go_meet
     case rel => exact ⟨_,(true),(by first|rfl|(simp;done)|(simp [*];done)),H',⟨by first|omega|exact Nat.le_refl _⟩,⟨kup (Kd.R_mono HO451.out (fun _ hk => trivial))⟩,⟨kup (Kd.R_mono HO446.out (fun _ hk => ⟨hk.1.2,hk.2⟩))⟩,⟨kup (Kd.R_mono HO455.out (fun _ hk => ⟨hk.1.2,hk.2⟩))⟩,⟨kup (Kd.R_mono HO460.out (fun _ hk => ⟨hk.1.2,hk.2⟩))⟩,⟨bup BK433.out⟩,⟨bup BK448.out⟩,⟨bup BK456.out⟩,⟨bup BK462.out⟩,⟨lup HB.out⟩⟩
   case rest =>
    clear HC18
    try clear c1
    try clear c2
    try clear p2
    try clear c3
    try clear c4
    try clear c5
    try clear c6
    try clear c19
    try clear c20
    try clear c33
    try clear c34
    try clear c35
    try clear c38
    try clear c39
    try clear c45
    try clear c46
    try clear c47
    try clear c51
    try clear c52
    try clear c53
    try clear c54
    try clear c56
    try clear c57
    try clear c60
    try clear c61
    try clear c62
    try clear c64
    try clear c65
    try clear hcz35_0
    try clear hcz35_1
    try clear hcz40_0
    try clear hcz40_1
    try clear hcz48_0
    try clear hcz48_1
    try clear hcz55_0
    try clear hcz55_1
    try clear hcz58_0
    try clear hcz58_1
    try clear hcz63_0
    try clear hcz63_1
    try clear hcz66_0
    try clear hcz66_1
    try clear hfz35_0
    try clear hfz35_1
    try clear hfz40_0
    try clear hfz40_1
    try clear hfz48_0
    try clear hfz48_1
    try clear hfz55_0
    try clear hfz55_1
    try clear hfz58_0
    try clear hfz58_1
    try clear hfz63_0
    try clear hfz63_1
    try clear hfz66_0
    try clear hfz66_1
    obtain ⟨kq,x57_17,rfl,HA,HJ17,HO_10,HO_449001,HO_457001,HO_463001,BK433,BK448,BK456,BK462,HB⟩:=hcut
    cases kq with
    | zero => exact absurd HA.out (by simp [laws_FnExactYoungObject.j0])
    | succ kj17 =>
     have H:=HA.out
     clear HA
     simp only [laws_FnExactYoungObject.j0] at H
     by_cases c68 : x57_17 = true
     ·subst c68
      have H1 : (some false) = some r:=by rw [if_pos rfl] at H;exact H
      clear H
      have H:=H1
      clear H1
      obtain rfl:=Option.some.inj H
      go_wp2
      go_ret
      exact ⟨by first|rfl|(simp [errW_none,errW_some] <;> rfl)|(simp [*,errW_none,errW_some] <;> rfl),by repeat (first|(with_reducible first|exact HB.out|apply below_alloc|apply pw_below_drewN|apply below_drew1|refine below_set ?_ GE433.out|refine below_set ?_ GE448.out|refine below_set ?_ GE456.out|refine below_set ?_ GE462.out)|exact HB.out)⟩
     ·replace c68:=Bool.eq_false_iff.mpr c68
      subst c68
      have H1 : ((laws_toStringS.f kj17 l0).bind fun t464 => ((laws_eqStringS.f kj17 t449 t464).bind fun t467 => (if t467 = true then ((laws_toNursery.f kj17 a1_0 l1_1).bind fun bt468 => ((laws_eqNursery.f kj17 t452 t453 bt468.1 bt468.2).bind fun t472 => (if t472 = true then ((laws_markStringS.f kj17 t449 1).bind fun bt473 => ((laws_markNursery.f kj17 t452 t453 bt473.1).bind fun bt475 => (if bt475.1 < 0 then (laws_FnExactYoungObject.j1 kj17 l0 a2 t447 true a1_0 l1_1 t443 t444 t457 t458) else ((laws_eqObj.f kj17 t457 t458 t443 t444).bind fun t477 => (if t477 = true then (laws_FnExactYoungObject.j1 kj17 l0 a2 t447 (t461 != t447) a1_0 l1_1 t443 t444 t457 t458) else (laws_FnExactYoungObject.j1 kj17 l0 a2 t447 true a1_0 l1_1 t443 t444 t457 t458)))))) else (some false)))) else (some false)))) = some r:=by rw [if_neg (show ¬ (false = true) by decide)] at H;exact H
      clear H
      have H:=H1
      clear H1
      replace H:=Option.bind_eq_some_iff.mp H
      obtain ⟨t464,A690,H⟩:=H
      replace H : ((laws_eqStringS.f kj17 t449 t464).bind fun t467 => (if t467 = true then ((laws_toNursery.f kj17 a1_0 l1_1).bind fun bt468 => ((laws_eqNursery.f kj17 t452 t453 bt468.1 bt468.2).bind fun t472 => (if t472 = true then ((laws_markStringS.f kj17 t449 1).bind fun bt473 => ((laws_markNursery.f kj17 t452 t453 bt473.1).bind fun bt475 => (if bt475.1 < 0 then (laws_FnExactYoungObject.j1 kj17 l0 a2 t447 true a1_0 l1_1 t443 t444 t457 t458) else ((laws_eqObj.f kj17 t457 t458 t443 t444).bind fun t477 => (if t477 = true then (laws_FnExactYoungObject.j1 kj17 l0 a2 t447 (t461 != t447) a1_0 l1_1 t443 t444 t457 t458) else (laws_FnExactYoungObject.j1 kj17 l0 a2 t447 true a1_0 l1_1 t443 t444 t457 t458)))))) else (some false)))) else (some false))) = some r:=H
      have A69:=am A690
      clear A690
      replace H:=Option.bind_eq_some_iff.mp H
      obtain ⟨t467,A700,H⟩:=H
      replace H : (if t467 = true then ((laws_toNursery.f kj17 a1_0 l1_1).bind fun bt468 => ((laws_eqNursery.f kj17 t452 t453 bt468.1 bt468.2).bind fun t472 => (if t472 = true then ((laws_markStringS.f kj17 t449 1).bind fun bt473 => ((laws_markNursery.f kj17 t452 t453 bt473.1).bind fun bt475 => (if bt475.1 < 0 then (laws_FnExactYoungObject.j1 kj17 l0 a2 t447 true a1_0 l1_1 t443 t444 t457 t458) else ((laws_eqObj.f kj17 t457 t458 t443 t444).bind fun t477 => (if t477 = true then (laws_FnExactYoungObject.j1 kj17 l0 a2 t447 (t461 != t447) a1_0 l1_1 t443 t444 t457 t458) else (laws_FnExactYoungObject.j1 kj17 l0 a2 t447 true a1_0 l1_1 t443 t444 t457 t458)))))) else (some false)))) else (some false)) = some r:=H
      have A70:=am A700
      clear A700
      by_cases c71 : t467 = true
      ·subst c71
       have H1 : ((laws_toNursery.f kj17 a1_0 l1_1).bind fun bt468 => ((laws_eqNursery.f kj17 t452 t453 bt468.1 bt468.2).bind fun t472 => (if t472 = true then ((laws_markStringS.f kj17 t449 1).bind fun bt473 => ((laws_markNursery.f kj17 t452 t453 bt473.1).bind fun bt475 => (if bt475.1 < 0 then (laws_FnExactYoungObject.j1 kj17 l0 a2 t447 true a1_0 l1_1 t443 t444 t457 t458) else ((laws_eqObj.f kj17 t457 t458 t443 t444).bind fun t477 => (if t477 = true then (laws_FnExactYoungObject.j1 kj17 l0 a2 t447 (t461 != t447) a1_0 l1_1 t443 t444 t457 t458) else (laws_FnExactYoungObject.j1 kj17 l0 a2 t447 true a1_0 l1_1 t443 t444 t457 t458)))))) else (some false)))) = some r:=by rw [if_pos rfl] at H;exact H
       clear H
       have H:=H1
       clear H1
       replace H:=Option.bind_eq_some_iff.mp H
       obtain ⟨⟨t468,t469⟩,A720,H⟩:=H
       replace H : ((laws_eqNursery.f kj17 t452 t453 t468 t469).bind fun t472 => (if t472 = true then ((laws_markStringS.f kj17 t449 1).bind fun bt473 => ((laws_markNursery.f kj17 t452 t453 bt473.1).bind fun bt475 => (if bt475.1 < 0 then (laws_FnExactYoungObject.j1 kj17 l0 a2 t447 true a1_0 l1_1 t443 t444 t457 t458) else ((laws_eqObj.f kj17 t457 t458 t443 t444).bind fun t477 => (if t477 = true then (laws_FnExactYoungObject.j1 kj17 l0 a2 t447 (t461 != t447) a1_0 l1_1 t443 t444 t457 t458) else (laws_FnExactYoungObject.j1 kj17 l0 a2 t447 true a1_0 l1_1 t443 t444 t457 t458)))))) else (some false))) = some r:=H
       have A72:=am A720
       clear A720
       replace H:=Option.bind_eq_some_iff.mp H
       obtain ⟨t472,A730,H⟩:=H
       replace H : (if t472 = true then ((laws_markStringS.f kj17 t449 1).bind fun bt473 => ((laws_markNursery.f kj17 t452 t453 bt473.1).bind fun bt475 => (if bt475.1 < 0 then (laws_FnExactYoungObject.j1 kj17 l0 a2 t447 true a1_0 l1_1 t443 t444 t457 t458) else ((laws_eqObj.f kj17 t457 t458 t443 t444).bind fun t477 => (if t477 = true then (laws_FnExactYoungObject.j1 kj17 l0 a2 t447 (t461 != t447) a1_0 l1_1 t443 t444 t457 t458) else (laws_FnExactYoungObject.j1 kj17 l0 a2 t447 true a1_0 l1_1 t443 t444 t457 t458)))))) else (some false)) = some r:=H
       have A73:=am A730
       clear A730
       by_cases c74 : t472 = true
       ·subst c74
        have H1 : ((laws_markStringS.f kj17 t449 1).bind fun bt473 => ((laws_markNursery.f kj17 t452 t453 bt473.1).bind fun bt475 => (if bt475.1 < 0 then (laws_FnExactYoungObject.j1 kj17 l0 a2 t447 true a1_0 l1_1 t443 t444 t457 t458) else ((laws_eqObj.f kj17 t457 t458 t443 t444).bind fun t477 => (if t477 = true then (laws_FnExactYoungObject.j1 kj17 l0 a2 t447 (t461 != t447) a1_0 l1_1 t443 t444 t457 t458) else (laws_FnExactYoungObject.j1 kj17 l0 a2 t447 true a1_0 l1_1 t443 t444 t457 t458)))))) = some r:=by rw [if_pos rfl] at H;exact H
        clear H
        have H:=H1
        clear H1
        replace H:=Option.bind_eq_some_iff.mp H
        obtain ⟨⟨t473,t474⟩,A750,H⟩:=H
        replace H : ((laws_markNursery.f kj17 t452 t453 t473).bind fun bt475 => (if bt475.1 < 0 then (laws_FnExactYoungObject.j1 kj17 l0 a2 t447 true a1_0 l1_1 t443 t444 t457 t458) else ((laws_eqObj.f kj17 t457 t458 t443 t444).bind fun t477 => (if t477 = true then (laws_FnExactYoungObject.j1 kj17 l0 a2 t447 (t461 != t447) a1_0 l1_1 t443 t444 t457 t458) else (laws_FnExactYoungObject.j1 kj17 l0 a2 t447 true a1_0 l1_1 t443 t444 t457 t458))))) = some r:=H
        have A75:=am A750
        clear A750
        replace H:=Option.bind_eq_some_iff.mp H
        obtain ⟨⟨t475,t476⟩,A760,H⟩:=H
        replace H : (if t475 < 0 then (laws_FnExactYoungObject.j1 kj17 l0 a2 t447 true a1_0 l1_1 t443 t444 t457 t458) else ((laws_eqObj.f kj17 t457 t458 t443 t444).bind fun t477 => (if t477 = true then (laws_FnExactYoungObject.j1 kj17 l0 a2 t447 (t461 != t447) a1_0 l1_1 t443 t444 t457 t458) else (laws_FnExactYoungObject.j1 kj17 l0 a2 t447 true a1_0 l1_1 t443 t444 t457 t458)))) = some r:=H
        have A76:=am A760
        clear A760
        have HC77:=am H
        clear H
        try go_wp2_with (first|((with_reducible refine gate_callee (f:=19) rfl ?_);refine goesL_ (some 60) rfl rfl Tryd.func19 (by kernel_rfl) rfl #[.slice A0 l0.length c0] rfl (by (try simp only [List.map_toArray,List.map_cons,List.map_nil]);first|done|rfl|(simp only [List.length_drop,List.length_take];rfl)) ?_;(with_reducible refine (laws_toStringS.calls kj17 _ _ l0 t464 _ ?side1 ?side2 A69.out).mono ?_);(case side1 => repeat (first|exact (Kd.C_below HR0.out HB.out)|(with_reducible first|refine Kd.C_alloc ?_ _|refine Kd.C_drewN ?_ _|refine Kd.C_drew ?_)));(case side2 => exact HC0.out);rintro e w78 ⟨v465,rfl,ho0,hb⟩;refine ⟨_,rfl,?_⟩;have n0_:=am (Kd.R_elder' (kup HO_10.out) (Kd.R_base ho0) hb);have n1_:=am (Kd.R_below (kup HO_449001.out) hb);have n2_:=am (Kd.R_below (kup HO_457001.out) hb);have n3_:=am (Kd.R_below (kup HO_463001.out) hb);have n4_:=am (Kd.R_lower (Kd.R_new' ho0 (Kd.R_lt (kup HO_10.out))) (below_size (lup HB.out)));have n5_:=am (blk_below (bup BK433.out) hb);have n6_:=am (blk_below (bup BK448.out) hb);have n7_:=am (blk_below (bup BK456.out) hb);have n8_:=am (blk_below (bup BK462.out) hb);have n9_:=am (below_step (lup HB.out) hb);clear HO_10 HO_449001 HO_457001 HO_463001 BK433 BK448 BK456 BK462 HB;have HO_10:=n0_;have HO_449001:=n1_;have HO_457001:=n2_;have HO_463001:=n3_;have HO466:=n4_;have BK433:=n5_;have BK448:=n6_;have BK456:=n7_;have BK462:=n8_;have HB:=n9_;clear n0_ n1_ n2_ n3_ n4_ n5_ n6_ n7_ n8_ n9_;(try clear hb);(try clear hb2);(try clear hk);(try clear hi);(try clear ho0);obtain ⟨Ao79,co79,eo79⟩:=Kd.R_slice HO466.out;subst eo79)|((with_reducible refine gate_callee (f:=22) rfl ?_);refine goesL_ (some 61) rfl rfl Tryd.func22 (by kernel_rfl) rfl #[.slice Ao42 t449.length co42,.slice Ao79 t464.length co79] rfl (by (try simp only [List.map_toArray,List.map_cons,List.map_nil]);first|done|rfl|(simp only [List.length_drop,List.length_take];rfl)) ?_;(with_reducible refine (laws_eqStringS.calls kj17 _ _ t449 _ _ t464 true _ ?side1 ?side2 ?side3 ?side4 A70.out).mono ?_);(case side1 => repeat (first|exact (Kd.R_reads' HO_10.out).2.2|(with_reducible first|refine Kd.C_alloc ?_ _|refine Kd.C_drewN ?_ _|refine Kd.C_drew ?_)));(case side2 => exact (Kd.R_reads' HO_10.out).2.1);(case side3 => repeat (first|exact (Kd.R_reads' HO466.out).2.2|(with_reducible first|refine Kd.C_alloc ?_ _|refine Kd.C_drewN ?_ _|refine Kd.C_drew ?_)));(case side4 => exact (Kd.R_reads' HO466.out).2.1);rintro e w' ⟨rfl,⟨nd,rfl⟩⟩;refine ⟨_,rfl,?_⟩))
        (try (rw [drewN_self w78];generalize hq_ : World.drewN w78 _ = w78;have n0_ : Aside0 (Kd.R Kd.string 9 w78 w.heap.size (fun k_ => some k_≠(.slice Ao42 t449.length co42 : Value).ownBlock) (.slice Ao79 t464.length co79) t464):=⟨by rw [← hq_];exact (kup (Kd.R_mono HO466.out (fun _ hk => hk.2)))⟩;have n1_ : Aside0 (Kd.R Kd.string 9 w78 w.heap.size (fun k_ => some k_≠(.slice Ao79 t464.length co79 : Value).ownBlock) (.slice Ao42 t449.length co42) t449):=⟨by rw [← hq_];exact (kup (Kd.R_mono HO_10.out (fun _ hk => hk.2)))⟩;have n2_ : Aside0 (Kd.R (Kd.int .i64) 2 w78 w.heap.size (fun k_ => some k_≠(.slice Ao41 t453.length co41 : Value).ownBlock∧some k_≠(.slice Ao49 t458.length co49 : Value).ownBlock) (.slice Ao31 t444.length co31) t444):=⟨by rw [← hq_];exact (kup HO_449001.out)⟩;have n3_ : Aside0 (Kd.R (Kd.int .i64) 2 w78 w.heap.size (fun k_ => some k_≠(.slice Ao31 t444.length co31 : Value).ownBlock∧some k_≠(.slice Ao49 t458.length co49 : Value).ownBlock) (.slice Ao41 t453.length co41) t453):=⟨by rw [← hq_];exact (kup HO_457001.out)⟩;have n4_ : Aside0 (Kd.R (Kd.int .i64) 2 w78 w.heap.size (fun k_ => some k_≠(.slice Ao31 t444.length co31 : Value).ownBlock∧some k_≠(.slice Ao41 t453.length co41 : Value).ownBlock) (.slice Ao49 t458.length co49) t458):=⟨by rw [← hq_];exact (kup HO_463001.out)⟩;have n5_ : Aside0 (w78.heap[gb433]? = some (.cells #[.int .i64 a1_0,.slice A1_1 l1_1.length c1_1] 25 (0,0))):=⟨by rw [← hq_];exact (bup BK433.out)⟩;have n6_ : Aside0 (w78.heap[gb448]? = some (.cells #[.int .i64 t443,.slice Ao31 t444.length co31] 40 (0,0))):=⟨by rw [← hq_];exact (bup BK448.out)⟩;have n7_ : Aside0 (w78.heap[gb456]? = some (.cells #[.int .i64 t452,.slice Ao41 t453.length co41] 30 (0,0))):=⟨by rw [← hq_];exact (bup BK456.out)⟩;have n8_ : Aside0 (w78.heap[gb462]? = some (.cells #[.int .i64 t457,.slice Ao49 t458.length co49] 40 (0,0))):=⟨by rw [← hq_];exact (bup BK462.out)⟩;have n9_ : Aside0 (Below w.heap.size w w78):=⟨by rw [← hq_];exact (lup HB.out)⟩;clear HO466 HO_10 HO_449001 HO_457001 HO_463001 BK433 BK448 BK456 BK462 HB hq_;have HO466:=n0_;have HO_10:=n1_;have HO_449001:=n2_;have HO_457001:=n3_;have HO_463001:=n4_;have BK433:=n5_;have BK448:=n6_;have BK456:=n7_;have BK462:=n8_;have HB:=n9_;clear n0_ n1_ n2_ n3_ n4_ n5_ n6_ n7_ n8_ n9_))
        have n0_:=am (Kd.R_drew HO_10.out)
        have n1_:=am (Kd.R_drew HO_449001.out)
        have n2_:=am (Kd.R_drew HO_457001.out)
        have n3_:=am (Kd.R_drew HO_463001.out)
        have n4_:=am (Kd.R_drew HO466.out)
        have n5_:=am (blk_drew BK433.out)
        have n6_:=am (blk_drew BK448.out)
        have n7_:=am (blk_drew BK456.out)
        have n8_:=am (blk_drew BK462.out)
        have n9_:=am (below_drew1 HB.out)
        clear HO_10
        clear HO_449001
        clear HO_457001
        clear HO_463001
        clear HO466
        clear BK433
        clear BK448
        clear BK456
        clear BK462
        clear HB
        have HO_10:=n0_
        have HO_449001:=n1_
        have HO_457001:=n2_
        have HO_463001:=n3_
        have HO466:=n4_
        have BK433:=n5_
        have BK448:=n6_
        have BK456:=n7_
        have BK462:=n8_
        have HB:=n9_
        clear n0_ n1_ n2_ n3_ n4_ n5_ n6_ n7_ n8_ n9_
        refine start_ (n:=5) (S:=fun w' => w'.cell? ⟨gb456,0,none⟩ = some (.int .i64 t452)∧w'.cell? ⟨gb456,1,none⟩ = some (.slice Ao41 t453.length co41)∧w'.cell? ⟨gb433,0,none⟩ = some (.int .i64 a1_0)∧w'.cell? ⟨gb433,1,none⟩ = some (.slice A1_1 l1_1.length c1_1)) (ds:=[]) #[false,false,false,false,false] (by kernel_rfl) rfl rfl ⟨(blk_cell BK456.out 0).trans rfl,(blk_cell BK456.out 1).trans rfl,(blk_cell BK433.out 0).trans rfl,(blk_cell BK433.out 1).trans rfl⟩ (fun hHeld => ?_)
        generalize w78.drew = w80 at HO_10 HO_449001 HO_457001 HO_463001 HO466 BK433 BK448 BK456 BK462 HB hHeld ⊢
        refine take_ (i:=0) (N:=some 63) (v:=?_) (a':=?_) #[true,false,false,false,false] rfl rfl (by kernel_rfl) (fun _ _ _ h => h) (Or.inl ⟨by rfl,?_⟩) hHeld ?_ ?_
        rotate_left
        ·rintro w' ⟨s0,s1,s2,s3⟩
         go_simp
         with_reducible rfl
        rotate_left
        ·simp only [Act.put,List.setIfInBounds_toArray,List.set_cons_zero,List.set_cons_succ,i64_w,i32_w]
         rfl
        refine take_ (i:=1) (N:=some 64) (v:=?_) (a':=?_) #[true,true,false,false,false] rfl rfl (by kernel_rfl) (fun _ _ _ h => h) (Or.inl ⟨by rfl,?_⟩) hHeld ?_ ?_
        rotate_left
        ·rintro w' ⟨s0,s1,s2,s3⟩
         go_simp
         with_reducible rfl
        rotate_left
        ·simp only [Act.put,List.setIfInBounds_toArray,List.set_cons_zero,List.set_cons_succ,i64_w,i32_w]
         rfl
        refine one_ (i:=2) (N:=some 65) #[true,true,true,false,false] rfl rfl (by kernel_rfl) (by decide) (fun K hK => ?_)
        refine goes_ Tryd.func20 (by kernel_rfl) rfl #[.agg #[.int .i64 a1_0,.slice A1_1 l1_1.length c1_1]] (by rfl) rfl rfl (by (try simp only [List.map_toArray,List.map_cons,List.map_nil]);first|done|rfl|(simp only [List.length_drop,List.length_take];rfl)) ?_
        with_reducible refine (laws_toNursery.calls kj17 a1_0 _ _ l1_1 t468 t469 _ ?side1 ?side2 A72.out).mono ?_
        (case side1 => repeat (first|exact (Kd.C_below HR1_1.out HB.out)|(with_reducible first|refine Kd.C_alloc ?_ _|refine Kd.C_drewN ?_ _|refine Kd.C_drew ?_)))
        (case side2 => exact HC1_1.out)
        rintro e w81 ⟨v470,rfl,ho0,hb⟩
        refine ⟨_,rfl,?_⟩
        have n0_:=am (Kd.R_below (kup HO_10.out) hb)
        have n1_:=am (Kd.R_elder' (kup HO_449001.out) (Kd.R_base ho0) hb)
        have n2_:=am (Kd.R_elder' (kup HO_457001.out) (Kd.R_base ho0) hb)
        have n3_:=am (Kd.R_elder' (kup HO_463001.out) (Kd.R_base ho0) hb)
        have n4_:=am (Kd.R_below (kup HO466.out) hb)
        have n5_:=am (Kd.R_lower (Kd.R_new' (Kd.R_new' (Kd.R_new' ho0 (Kd.R_lt (kup HO_449001.out))) (Kd.R_lt (kup HO_457001.out))) (Kd.R_lt (kup HO_463001.out))) (below_size (lup HB.out)))
        have n6_:=am (blk_below (bup BK433.out) hb)
        have n7_:=am (blk_below (bup BK448.out) hb)
        have n8_:=am (blk_below (bup BK456.out) hb)
        have n9_:=am (blk_below (bup BK462.out) hb)
        have n10_:=am (below_step (lup HB.out) hb)
        clear HO_10
        clear HO_449001
        clear HO_457001
        clear HO_463001
        clear HO466
        clear BK433
        clear BK448
        clear BK456
        clear BK462
        clear HB
        have HO_10:=n0_
        have HO_449001:=n1_
        have HO_457001:=n2_
        have HO_463001:=n3_
        have HO466:=n4_
        have HO471:=n5_
        have BK433:=n6_
        have BK448:=n7_
        have BK456:=n8_
        have BK462:=n9_
        have HB:=n10_
        clear n0_ n1_ n2_ n3_ n4_ n5_ n6_ n7_ n8_ n9_ n10_
        (try clear hb)
        (try clear hb2)
        (try clear hk)
        (try clear hi)
        (try clear ho0)
        obtain ⟨Ao82,co82,eo82⟩:=Kd.R_slice HO471.out
        (first|subst eo82|(injection eo82 with f1_ f2_ f3_;have f4_:=f1_.symm;have f5_:=f3_.symm;clear f1_ f2_ f3_;subst f4_;subst f5_))
        refine hK.out _ _ ⟨(blk_cell BK456.out 0).trans rfl,(blk_cell BK456.out 1).trans rfl,(blk_cell BK433.out 0).trans rfl,(blk_cell BK433.out 1).trans rfl⟩ (fun hHeld => ?_)
        clear hK K
        refine norm_ (a':=?_) ?_ ?_
        rotate_left
        ·show Act.put _ (some 65) _ = _
         simp only [Act.put,List.setIfInBounds_toArray,List.set_cons_zero,List.set_cons_succ,i64_w,i32_w]
         rfl
        refine one_ (i:=3) (N:=some 66) #[true,true,true,true,false] rfl rfl (by kernel_rfl) (by decide) (fun K hK => ?_)
        refine goes_ Tryd.func23 (by kernel_rfl) rfl #[.agg #[.int .i64 t452,.slice Ao41 t453.length co41],.agg #[.int .i64 t468,.slice Ao82 t469.length co82]] (by rfl) rfl rfl (by (try simp only [List.map_toArray,List.map_cons,List.map_nil]);first|done|rfl|(simp only [List.length_drop,List.length_take];rfl)) ?_
        with_reducible refine (laws_eqNursery.calls kj17 t452 _ _ t453 t468 _ _ t469 true _ ?side1 ?side2 ?side3 ?side4 A73.out).mono ?_
        (case side1 => repeat (first|exact (Kd.R_reads' HO_457001.out).2.2|(with_reducible first|refine Kd.C_alloc ?_ _|refine Kd.C_drewN ?_ _|refine Kd.C_drew ?_)))
        (case side2 => exact (Kd.R_reads' HO_457001.out).2.1)
        (case side3 => repeat (first|exact (Kd.R_reads' HO471.out).2.2|(with_reducible first|refine Kd.C_alloc ?_ _|refine Kd.C_drewN ?_ _|refine Kd.C_drew ?_)))
        (case side4 => exact (Kd.R_reads' HO471.out).2.1)
        rintro e w83 ⟨rfl,hb⟩
        refine ⟨_,rfl,?_⟩
        have n0_:=am (Kd.R_below (kup HO_10.out) hb)
        have n1_:=am (Kd.R_below (kup HO_449001.out) hb)
        have n2_:=am (Kd.R_below (kup HO_457001.out) hb)
        have n3_:=am (Kd.R_below (kup HO_463001.out) hb)
        have n4_:=am (Kd.R_below (kup HO466.out) hb)
        have n5_:=am (Kd.R_below (kup HO471.out) hb)
        have n6_:=am (blk_below (bup BK433.out) hb)
        have n7_:=am (blk_below (bup BK448.out) hb)
        have n8_:=am (blk_below (bup BK456.out) hb)
        have n9_:=am (blk_below (bup BK462.out) hb)
        have n10_:=am (below_step (lup HB.out) hb)
        clear HO_10
        clear HO_449001
        clear HO_457001
        clear HO_463001
        clear HO466
        clear HO471
        clear BK433
        clear BK448
        clear BK456
        clear BK462
        clear HB
        have HO_10:=n0_
        have HO_449001:=n1_
        have HO_457001:=n2_
        have HO_463001:=n3_
        have HO466:=n4_
        have HO471:=n5_
        have BK433:=n6_
        have BK448:=n7_
        have BK456:=n8_
        have BK462:=n9_
        have HB:=n10_
        clear n0_ n1_ n2_ n3_ n4_ n5_ n6_ n7_ n8_ n9_ n10_
        (try clear hb)
        (try clear hb2)
        (try clear hk)
        (try clear hi)
        refine hK.out _ _ ⟨(blk_cell BK456.out 0).trans rfl,(blk_cell BK456.out 1).trans rfl,(blk_cell BK433.out 0).trans rfl,(blk_cell BK433.out 1).trans rfl⟩ (fun hHeld => ?_)
        clear hK K
        refine norm_ (a':=?_) ?_ ?_
        rotate_left
        ·show Act.put _ (some 66) _ = _
         simp only [Act.put,List.setIfInBounds_toArray,List.set_cons_zero,List.set_cons_succ,i64_w,i32_w]
         rfl
        refine pure_ (i:=4) (N:=some 67) (v:=?_) (a':=?_) #[true,true,true,true,true] rfl rfl (by kernel_rfl) (fun _ _ _ h => h) (Or.inl ⟨by rfl,?_⟩) ?_ ?_
        rotate_left
        ·intro w'
         go_simp
         with_reducible rfl
        rotate_left
        ·simp only [Act.put,List.setIfInBounds_toArray,List.set_cons_zero,List.set_cons_succ,i64_w,i32_w]
         rfl
        refine done_ (by kernel_rfl) ?_
        go_upto_region 21 with (first|((with_reducible refine gate_callee (f:=27) rfl ?_);refine goesL_ (some 70) rfl rfl Tryd.func27 (by kernel_rfl) rfl #[.slice Ao42 t449.length co42,.int .i64 1] rfl (by (try simp only [List.map_toArray,List.map_cons,List.map_nil]);first|done|rfl|(simp only [List.length_drop,List.length_take];rfl)) ?_;(with_reducible refine (laws_markStringS.calls kj17 (fun k_ => some k_ = (.slice Ao42 t449.length co42 : Value).ownBlock) (.slice Ao42 t449.length co42) t449 1 t473 t474 w _ ?side1 ?side2 A75.out).mono ?_);(case side1 => repeat (first|(with_reducible first|exact HB.out|apply below_alloc|apply pw_below_drewN|apply below_drew1|refine below_set ?_ GE433.out|refine below_set ?_ GE448.out|refine below_set ?_ GE456.out|refine below_set ?_ GE462.out)|exact HB.out));(case side2 => exact Kd.R_tight rfl HO_10.out);rintro e w84 ⟨rfl,hy0,hb,hkp⟩;refine ⟨_,rfl,?_⟩;have n0_:=am (Kd.R_reok rfl hy0 (fun k_ e_ => HO_10.out.1 k_ e_));have n1_:=am (Kd.R_mono (ok':=fun k_ => some k_≠(.slice Ao41 t453.length co41 : Value).ownBlock∧some k_≠(.slice Ao49 t458.length co49 : Value).ownBlock∧some k_≠(.slice Ao82 t469.length co82 : Value).ownBlock) (Kd.R_keptB ((Kd.R_apart' HO_449001.out (Kd.R_typed HO_10.out) (by decide))) hkp (fun k_ hk_ hs_ => by first|exact hk_.2 hs_|exact hk_ hs_)) (fun k_ hk_ => by first|exact ⟨hk_.1.1.1.1,hk_.1.1.1.2,hk_.1.1.2⟩|(simp only [and_assoc] at hk_;exact ⟨hk_.1,hk_.2.1,hk_.2.2.1⟩)));have n2_:=am (Kd.R_mono (ok':=fun k_ => some k_≠(.slice Ao31 t444.length co31 : Value).ownBlock∧some k_≠(.slice Ao49 t458.length co49 : Value).ownBlock∧some k_≠(.slice Ao82 t469.length co82 : Value).ownBlock) (Kd.R_keptB ((Kd.R_apart' HO_457001.out (Kd.R_typed HO_10.out) (by decide))) hkp (fun k_ hk_ hs_ => by first|exact hk_.2 hs_|exact hk_ hs_)) (fun k_ hk_ => by first|exact ⟨hk_.1.1.1.1,hk_.1.1.1.2,hk_.1.1.2⟩|(simp only [and_assoc] at hk_;exact ⟨hk_.1,hk_.2.1,hk_.2.2.1⟩)));have n3_:=am (Kd.R_mono (ok':=fun k_ => some k_≠(.slice Ao31 t444.length co31 : Value).ownBlock∧some k_≠(.slice Ao41 t453.length co41 : Value).ownBlock∧some k_≠(.slice Ao82 t469.length co82 : Value).ownBlock) (Kd.R_keptB ((Kd.R_apart' HO_463001.out (Kd.R_typed HO_10.out) (by decide))) hkp (fun k_ hk_ hs_ => by first|exact hk_.2 hs_|exact hk_ hs_)) (fun k_ hk_ => by first|exact ⟨hk_.1.1.1.1,hk_.1.1.1.2,hk_.1.1.2⟩|(simp only [and_assoc] at hk_;exact ⟨hk_.1,hk_.2.1,hk_.2.2.1⟩)));have n4_:=am (blk_kept (bup BK433.out) hkp (fun hs_ => (fun e_ => (Kd.R_ne HO_10.out BK433.out (by decide)) e_) hs_));have n5_:=am (blk_kept (bup BK448.out) hkp (fun hs_ => (fun e_ => (Kd.R_ne HO_10.out BK448.out (by decide)) e_) hs_));have n6_:=am (blk_kept (bup BK456.out) hkp (fun hs_ => (fun e_ => (Kd.R_ne HO_10.out BK456.out (by decide)) e_) hs_));have n7_:=am (blk_kept (bup BK462.out) hkp (fun hs_ => (fun e_ => (Kd.R_ne HO_10.out BK462.out (by decide)) e_) hs_));have n8_:=am (Kd.R_mono (ok':=fun k_ => some k_≠(.slice Ao42 t449.length co42 : Value).ownBlock) (Kd.R_keptB (HO466.out) hkp (fun k_ hk_ hs_ => by first|exact hk_.2 hs_|exact hk_ hs_)) (fun k_ hk_ => by first|exact hk_.1.2|exact hk_.1|exact hk_.1.1));have n9_:=am (Kd.R_mono (ok':=fun k_ => some k_≠(.slice Ao31 t444.length co31 : Value).ownBlock∧some k_≠(.slice Ao41 t453.length co41 : Value).ownBlock∧some k_≠(.slice Ao49 t458.length co49 : Value).ownBlock) (Kd.R_keptB ((Kd.R_apart' HO471.out (Kd.R_typed HO_10.out) (by decide))) hkp (fun k_ hk_ hs_ => by first|exact hk_.2 hs_|exact hk_ hs_)) (fun k_ hk_ => by first|exact ⟨hk_.1.1.1.1.2,hk_.1.1.1.2,hk_.1.1.2⟩|(simp only [and_assoc] at hk_;exact ⟨hk_.1,hk_.2.1,hk_.2.2.1⟩)));have n10_:=am (hb);clear HO_10 HO_449001 HO_457001 HO_463001 BK433 BK448 BK456 BK462 HO466 HO471 HB;have HO_10:=n0_;have HO_449001:=n1_;have HO_457001:=n2_;have HO_463001:=n3_;have BK433:=n4_;have BK448:=n5_;have BK456:=n6_;have BK462:=n7_;have HO466:=n8_;have HO471:=n9_;have HB:=n10_;clear n0_ n1_ n2_ n3_ n4_ n5_ n6_ n7_ n8_ n9_ n10_;(try clear hb);(try clear hkp);(try clear hy0);have hnb85:=NB456_433.out;have hnc85:=NB433_456.out;have hnb86:=NB456_448.out;have hnc86:=NB448_456.out;have hnb87:=NB456_462.out;have hnc87:=NB462_456.out;have hcz88_0 : w84.cell? ⟨gb456,0,none⟩ = some (.int .i64 t452):=(blk_cell BK456.out 0).trans rfl;have hcz88_1 : w84.cell? ⟨gb456,1,none⟩ = some (.slice Ao41 t453.length co41):=(blk_cell BK456.out 1).trans rfl;have hfz88_0:=blk_frozen BK456.out 0;have hfz88_1:=blk_frozen BK456.out 1)|((with_reducible refine gate_callee (f:=28) rfl ?_);refine goesL_ (some 73) rfl rfl Tryd.func28 (by kernel_rfl) rfl #[.agg #[.int .i64 t452,.slice Ao41 t453.length co41],.int .i64 t473] rfl (by (try simp only [List.map_toArray,List.map_cons,List.map_nil]);first|done|rfl|(simp only [List.length_drop,List.length_take];rfl)) ?_;(with_reducible refine (laws_markNursery.calls kj17 t452 (fun k_ => some k_ = (.slice Ao41 t453.length co41 : Value).ownBlock) (.slice Ao41 t453.length co41) t453 t473 t475 t476 w _ ?side1 ?side2 A76.out).mono ?_);(case side1 => repeat (first|(with_reducible first|exact HB.out|apply below_alloc|apply pw_below_drewN|apply below_drew1|refine below_set ?_ GE433.out|refine below_set ?_ GE448.out|refine below_set ?_ GE456.out|refine below_set ?_ GE462.out)|exact HB.out));(case side2 => exact Kd.R_tight rfl HO_457001.out);rintro e w89 ⟨rfl,hy0,hb,hkp⟩;refine ⟨_,rfl,?_⟩;have n0_:=am (Kd.R_mono (ok':=fun k_ => some k_≠(.slice Ao79 t464.length co79 : Value).ownBlock) (Kd.R_keptB ((Kd.R_apart' HO_10.out (Kd.R_typed HO_457001.out) (by decide))) hkp (fun k_ hk_ hs_ => by first|exact hk_.2 hs_|exact hk_ hs_)) (fun k_ hk_ => by first|exact hk_.1.1.2|exact hk_.1|exact hk_.1.1));have n1_:=am (Kd.R_mono (ok':=fun k_ => some k_≠(.slice Ao41 t453.length co41 : Value).ownBlock∧some k_≠(.slice Ao49 t458.length co49 : Value).ownBlock∧some k_≠(.slice Ao82 t469.length co82 : Value).ownBlock) (Kd.R_keptB (HO_449001.out) hkp (fun k_ hk_ hs_ => by first|exact hk_.1 hs_|exact hk_.1 hs_|exact hk_.2.1 hs_|exact hk_.2 hs_|exact hk_.2.2.1 hs_|exact hk_.2.2 hs_|exact hk_.2.2.2 hs_|exact hk_ hs_)) (fun k_ hk_ => by first|exact ⟨hk_.1.1,hk_.1.2.1,hk_.1.2.2⟩|(simp only [and_assoc] at hk_;exact ⟨hk_.1,hk_.2.1,hk_.2.2.1⟩)));have n2_:=am (Kd.R_reok rfl hy0 (fun k_ e_ => HO_457001.out.1 k_ e_));have n3_:=am (Kd.R_mono (ok':=fun k_ => some k_≠(.slice Ao31 t444.length co31 : Value).ownBlock∧some k_≠(.slice Ao41 t453.length co41 : Value).ownBlock∧some k_≠(.slice Ao82 t469.length co82 : Value).ownBlock) (Kd.R_keptB (HO_463001.out) hkp (fun k_ hk_ hs_ => by first|exact hk_.2.1 hs_|exact hk_.1 hs_|exact hk_.2.1 hs_|exact hk_.2 hs_|exact hk_.2.2.1 hs_|exact hk_.2.2 hs_|exact hk_.2.2.2 hs_|exact hk_ hs_)) (fun k_ hk_ => by first|exact ⟨hk_.1.1,hk_.1.2.1,hk_.1.2.2⟩|(simp only [and_assoc] at hk_;exact ⟨hk_.1,hk_.2.1,hk_.2.2.1⟩)));have n4_:=am (blk_kept (bup BK433.out) hkp (fun hs_ => (fun e_ => (Kd.R_ne HO_457001.out BK433.out (by decide)) e_) hs_));have n5_:=am (blk_kept (bup BK448.out) hkp (fun hs_ => (fun e_ => (Kd.R_ne HO_457001.out BK448.out (by decide)) e_) hs_));have n6_:=am (blk_kept (bup BK456.out) hkp (fun hs_ => (fun e_ => (Kd.R_ne HO_457001.out BK456.out (by decide)) e_) hs_));have n7_:=am (blk_kept (bup BK462.out) hkp (fun hs_ => (fun e_ => (Kd.R_ne HO_457001.out BK462.out (by decide)) e_) hs_));have n8_:=am (Kd.R_mono (ok':=fun k_ => some k_≠(.slice Ao42 t449.length co42 : Value).ownBlock) (Kd.R_keptB ((Kd.R_apart' HO466.out (Kd.R_typed HO_457001.out) (by decide))) hkp (fun k_ hk_ hs_ => by first|exact hk_.2 hs_|exact hk_ hs_)) (fun k_ hk_ => by first|exact hk_.1.1|exact hk_.1|exact hk_.1.1));have n9_:=am (Kd.R_mono (ok':=fun k_ => some k_≠(.slice Ao31 t444.length co31 : Value).ownBlock∧some k_≠(.slice Ao41 t453.length co41 : Value).ownBlock∧some k_≠(.slice Ao49 t458.length co49 : Value).ownBlock) (Kd.R_keptB (HO471.out) hkp (fun k_ hk_ hs_ => by first|exact hk_.2.1 hs_|exact hk_.1 hs_|exact hk_.2.1 hs_|exact hk_.2 hs_|exact hk_.2.2.1 hs_|exact hk_.2.2 hs_|exact hk_.2.2.2 hs_|exact hk_ hs_)) (fun k_ hk_ => by first|exact ⟨hk_.1.1,hk_.1.2.1,hk_.1.2.2⟩|(simp only [and_assoc] at hk_;exact ⟨hk_.1,hk_.2.1,hk_.2.2.1⟩)));have n10_:=am (hb);clear HO_10 HO_449001 HO_457001 HO_463001 BK433 BK448 BK456 BK462 HO466 HO471 HB;have HO_10:=n0_;have HO_449001:=n1_;have HO_457001:=n2_;have HO_463001:=n3_;have BK433:=n4_;have BK448:=n5_;have BK456:=n6_;have BK462:=n7_;have HO466:=n8_;have HO471:=n9_;have HB:=n10_;clear n0_ n1_ n2_ n3_ n4_ n5_ n6_ n7_ n8_ n9_ n10_;(try clear hb);(try clear hkp);(try clear hy0)))
        (try simp only [Act.put,List.setIfInBounds_toArray,List.set_cons_zero,List.set_cons_succ])
        go_cut [86] (fun v86 wc => ∃ (kq : Nat) (x86_76 : Bool),v86 = .bool x86_76∧Aside0 (laws_FnExactYoungObject.j1 kq l0 a2 t447 x86_76 a1_0 l1_1 t443 t444 t457 t458 = some r)∧Aside0 (kq ≤ kj17)∧Aside0 (Kd.R (Kd.int .i64) 2 wc w.heap.size (fun k_ => some k_≠((.slice Ao41 t453.length co41) : Value).ownBlock∧some k_≠((.slice Ao49 t458.length co49) : Value).ownBlock) (.slice Ao31 t444.length co31) t444)∧Aside0 (Kd.R (Kd.int .i64) 2 wc w.heap.size (fun k_ => some k_≠((.slice Ao31 t444.length co31) : Value).ownBlock∧some k_≠((.slice Ao49 t458.length co49) : Value).ownBlock) (.slice Ao41 t453.length co41) t476)∧Aside0 (Kd.R (Kd.int .i64) 2 wc w.heap.size (fun k_ => some k_≠((.slice Ao31 t444.length co31) : Value).ownBlock∧some k_≠((.slice Ao41 t453.length co41) : Value).ownBlock) (.slice Ao49 t458.length co49) t458)∧Aside0 (wc.heap[gb433]? = some (.cells #[.int .i64 a1_0,(.slice A1_1 l1_1.length c1_1)] 25 (0,0)))∧Aside0 (wc.heap[gb448]? = some (.cells #[.int .i64 t443,(.slice Ao31 t444.length co31)] 40 (0,0)))∧Aside0 (wc.heap[gb456]? = some (.cells #[.int .i64 t452,(.slice Ao41 t453.length co41)] 30 (0,0)))∧Aside0 (wc.heap[gb462]? = some (.cells #[.int .i64 t457,(.slice Ao49 t458.length co49)] 40 (0,0)))∧Aside0 (Below w.heap.size w wc))
        case first =>
         have H:=HC77.out
         clear HC77
         by_cases c90 : t475 < 0
         ·rw [if_pos c90] at H
          have c90b0 : decide (t475 < 0) = true:=decide_eq_true c90
          clear c90
          (first|rw [c90b0]|(simp only [i64_w,i32_w];rw [c90b0])|skip)
          have H':=am H
          clear H
          go_wp2
          go_meet
          case rel => exact ⟨_,(true),(by first|rfl|(simp;done)|(simp [*];done)),H',⟨by have:=HJ17.out;first|omega|exact Nat.le_refl _⟩,⟨kup (Kd.R_mono HO_449001.out (fun _ hk => ⟨hk.1,hk.2.1⟩))⟩,⟨kup (Kd.R_mono HO_457001.out (fun _ hk => ⟨hk.1,hk.2.1⟩))⟩,⟨kup (Kd.R_mono HO_463001.out (fun _ hk => ⟨hk.1,hk.2.1⟩))⟩,⟨bup BK433.out⟩,⟨bup BK448.out⟩,⟨bup BK456.out⟩,⟨bup BK462.out⟩,⟨lup HB.out⟩⟩
         ·rw [if_neg c90] at H
          have c90b0 : decide (t475 < 0) = false:=decide_eq_false c90
          clear c90
          (first|rw [c90b0]|(simp only [i64_w,i32_w];rw [c90b0])|skip)
          replace H:=Option.bind_eq_some_iff.mp H
          obtain ⟨t477,A910,H⟩:=H
          replace H : (if t477 = true then (laws_FnExactYoungObject.j1 kj17 l0 a2 t447 (t461 != t447) a1_0 l1_1 t443 t444 t457 t458) else (laws_FnExactYoungObject.j1 kj17 l0 a2 t447 true a1_0 l1_1 t443 t444 t457 t458)) = some r:=H
          have A91:=am A910
          clear A910
          by_cases c92 : t477 = true
          ·subst c92
           have H1 : (laws_FnExactYoungObject.j1 kj17 l0 a2 t447 (t461 != t447) a1_0 l1_1 t443 t444 t457 t458) = some r:=by rw [if_pos rfl] at H;exact H
           clear H
           have H:=H1
           clear H1
           have H':=am H
           clear H
           have hnb93:=NB462_433.out
           have hnc93:=NB433_462.out
           have hnb94:=NB462_448.out
           have hnc94:=NB448_462.out
           have hnb95:=NB462_456.out
           have hnc95:=NB456_462.out
           have hcz96_0 : w89.cell? ⟨gb462,0,none⟩ = some (.int .i64 t457):=(blk_cell BK462.out 0).trans rfl
           have hcz96_1 : w89.cell? ⟨gb462,1,none⟩ = some (.slice Ao49 t458.length co49):=(blk_cell BK462.out 1).trans rfl
           have hfz96_0:=blk_frozen BK462.out 0
           have hfz96_1:=blk_frozen BK462.out 1
           have hnb97:=NB448_433.out
           have hnc97:=NB433_448.out
           have hnb98:=NB448_456.out
           have hnc98:=NB456_448.out
           have hcz99_0 : w89.cell? ⟨gb448,0,none⟩ = some (.int .i64 t443):=(blk_cell BK448.out 0).trans rfl
           have hcz99_1 : w89.cell? ⟨gb448,1,none⟩ = some (.slice Ao31 t444.length co31):=(blk_cell BK448.out 1).trans rfl
           have hfz99_0:=blk_frozen BK448.out 0
           have hfz99_1:=blk_frozen BK448.out 1
           go_wp2_with (first|(go_at_call 35;(with_reducible refine (laws_eqObj.calls kj17 t457 _ _ t458 t443 _ _ t444 true _ ?side1 ?side2 ?side3 ?side4 A91.out).mono ?_);(case side1 => repeat (first|exact (Kd.R_reads' HO_463001.out).2.2|(with_reducible first|refine Kd.C_alloc ?_ _|refine Kd.C_drewN ?_ _|refine Kd.C_drew ?_)));(case side2 => exact (Kd.R_reads' HO_463001.out).2.1);(case side3 => repeat (first|exact (Kd.R_reads' HO_449001.out).2.2|(with_reducible first|refine Kd.C_alloc ?_ _|refine Kd.C_drewN ?_ _|refine Kd.C_drew ?_)));(case side4 => exact (Kd.R_reads' HO_449001.out).2.1);rintro e w100 ⟨rfl,hb⟩;have n0_:=am (Kd.R_below (kup HO_10.out) hb);have n1_:=am (Kd.R_below (kup HO_449001.out) hb);have n2_:=am (Kd.R_below (kup HO_457001.out) hb);have n3_:=am (Kd.R_below (kup HO_463001.out) hb);have n4_:=am (Kd.R_below (kup HO466.out) hb);have n5_:=am (Kd.R_below (kup HO471.out) hb);have n6_:=am (blk_below (bup BK433.out) hb);have n7_:=am (blk_below (bup BK448.out) hb);have n8_:=am (blk_below (bup BK456.out) hb);have n9_:=am (blk_below (bup BK462.out) hb);have n10_:=am (below_step (lup HB.out) hb);clear HO_10 HO_449001 HO_457001 HO_463001 HO466 HO471 BK433 BK448 BK456 BK462 HB;have HO_10:=n0_;have HO_449001:=n1_;have HO_457001:=n2_;have HO_463001:=n3_;have HO466:=n4_;have HO471:=n5_;have BK433:=n6_;have BK448:=n7_;have BK456:=n8_;have BK462:=n9_;have HB:=n10_;clear n0_ n1_ n2_ n3_ n4_ n5_ n6_ n7_ n8_ n9_ n10_;(try clear hb);(try clear hb2);(try clear hk);(try clear hi)))
           go_meet
           case rel => exact ⟨_,((t461 != t447)),(by first|rfl|(simp;done)|(simp [*];done)),H',⟨by have:=HJ17.out;first|omega|exact Nat.le_refl _⟩,⟨kup (Kd.R_mono HO_449001.out (fun _ hk => ⟨hk.1,hk.2.1⟩))⟩,⟨kup (Kd.R_mono HO_457001.out (fun _ hk => ⟨hk.1,hk.2.1⟩))⟩,⟨kup (Kd.R_mono HO_463001.out (fun _ hk => ⟨hk.1,hk.2.1⟩))⟩,⟨bup BK433.out⟩,⟨bup BK448.out⟩,⟨bup BK456.out⟩,⟨bup BK462.out⟩,⟨lup HB.out⟩⟩
          ·replace c92:=Bool.eq_false_iff.mpr c92
           subst c92
           have H1 : (laws_FnExactYoungObject.j1 kj17 l0 a2 t447 true a1_0 l1_1 t443 t444 t457 t458) = some r:=by rw [if_neg (show ¬ (false = true) by decide)] at H;exact H
           clear H
           have H:=H1
           clear H1
           have H':=am H
           clear H
           have hnb101:=NB462_433.out
           have hnc101:=NB433_462.out
           have hnb102:=NB462_448.out
           have hnc102:=NB448_462.out
           have hnb103:=NB462_456.out
           have hnc103:=NB456_462.out
           have hcz104_0 : w89.cell? ⟨gb462,0,none⟩ = some (.int .i64 t457):=(blk_cell BK462.out 0).trans rfl
           have hcz104_1 : w89.cell? ⟨gb462,1,none⟩ = some (.slice Ao49 t458.length co49):=(blk_cell BK462.out 1).trans rfl
           have hfz104_0:=blk_frozen BK462.out 0
           have hfz104_1:=blk_frozen BK462.out 1
           have hnb105:=NB448_433.out
           have hnc105:=NB433_448.out
           have hnb106:=NB448_456.out
           have hnc106:=NB456_448.out
           have hcz107_0 : w89.cell? ⟨gb448,0,none⟩ = some (.int .i64 t443):=(blk_cell BK448.out 0).trans rfl
           have hcz107_1 : w89.cell? ⟨gb448,1,none⟩ = some (.slice Ao31 t444.length co31):=(blk_cell BK448.out 1).trans rfl
           have hfz107_0:=blk_frozen BK448.out 0
           have hfz107_1:=blk_frozen BK448.out 1
           go_wp2_with (first|(go_at_call 35;(with_reducible refine (laws_eqObj.calls kj17 t457 _ _ t458 t443 _ _ t444 false _ ?side1 ?side2 ?side3 ?side4 A91.out).mono ?_);(case side1 => repeat (first|exact (Kd.R_reads' HO_463001.out).2.2|(with_reducible first|refine Kd.C_alloc ?_ _|refine Kd.C_drewN ?_ _|refine Kd.C_drew ?_)));(case side2 => exact (Kd.R_reads' HO_463001.out).2.1);(case side3 => repeat (first|exact (Kd.R_reads' HO_449001.out).2.2|(with_reducible first|refine Kd.C_alloc ?_ _|refine Kd.C_drewN ?_ _|refine Kd.C_drew ?_)));(case side4 => exact (Kd.R_reads' HO_449001.out).2.1);rintro e w108 ⟨rfl,hb⟩;have n0_:=am (Kd.R_below (kup HO_10.out) hb);have n1_:=am (Kd.R_below (kup HO_449001.out) hb);have n2_:=am (Kd.R_below (kup HO_457001.out) hb);have n3_:=am (Kd.R_below (kup HO_463001.out) hb);have n4_:=am (Kd.R_below (kup HO466.out) hb);have n5_:=am (Kd.R_below (kup HO471.out) hb);have n6_:=am (blk_below (bup BK433.out) hb);have n7_:=am (blk_below (bup BK448.out) hb);have n8_:=am (blk_below (bup BK456.out) hb);have n9_:=am (blk_below (bup BK462.out) hb);have n10_:=am (below_step (lup HB.out) hb);clear HO_10 HO_449001 HO_457001 HO_463001 HO466 HO471 BK433 BK448 BK456 BK462 HB;have HO_10:=n0_;have HO_449001:=n1_;have HO_457001:=n2_;have HO_463001:=n3_;have HO466:=n4_;have HO471:=n5_;have BK433:=n6_;have BK448:=n7_;have BK456:=n8_;have BK462:=n9_;have HB:=n10_;clear n0_ n1_ n2_ n3_ n4_ n5_ n6_ n7_ n8_ n9_ n10_;(try clear hb);(try clear hb2);(try clear hk);(try clear hi)))
           go_meet
           case rel => exact ⟨_,(true),(by first|rfl|(simp;done)|(simp [*];done)),H',⟨by have:=HJ17.out;first|omega|exact Nat.le_refl _⟩,⟨kup (Kd.R_mono HO_449001.out (fun _ hk => ⟨hk.1,hk.2.1⟩))⟩,⟨kup (Kd.R_mono HO_457001.out (fun _ hk => ⟨hk.1,hk.2.1⟩))⟩,⟨kup (Kd.R_mono HO_463001.out (fun _ hk => ⟨hk.1,hk.2.1⟩))⟩,⟨bup BK433.out⟩,⟨bup BK448.out⟩,⟨bup BK456.out⟩,⟨bup BK462.out⟩,⟨lup HB.out⟩⟩
        case rest =>
         clear HC77
         try clear c1
         try clear c2
         try clear p2
         try clear c3
         try clear c4
         try clear c5
         try clear c6
         try clear c7
         try clear c8
         try clear c9
         try clear c10
         try clear c19
         try clear c20
         try clear c22
         try clear c23
         try clear c27
         try clear c28
         try clear c33
         try clear c34
         try clear c35
         try clear c38
         try clear c39
         try clear c45
         try clear c46
         try clear c47
         try clear c51
         try clear c52
         try clear c53
         try clear c54
         try clear c56
         try clear c57
         try clear c60
         try clear c61
         try clear c62
         try clear c64
         try clear c65
         try clear c68
         try clear c71
         try clear c74
         try clear c85
         try clear c86
         try clear c87
         try clear c90
         try clear c90b0
         try clear c92
         try clear c93
         try clear c94
         try clear c95
         try clear c97
         try clear c98
         try clear c101
         try clear c102
         try clear c103
         try clear c105
         try clear c106
         try clear hcz104_0
         try clear hcz104_1
         try clear hcz107_0
         try clear hcz107_1
         try clear hcz35_0
         try clear hcz35_1
         try clear hcz40_0
         try clear hcz40_1
         try clear hcz48_0
         try clear hcz48_1
         try clear hcz55_0
         try clear hcz55_1
         try clear hcz58_0
         try clear hcz58_1
         try clear hcz63_0
         try clear hcz63_1
         try clear hcz66_0
         try clear hcz66_1
         try clear hcz88_0
         try clear hcz88_1
         try clear hcz96_0
         try clear hcz96_1
         try clear hcz99_0
         try clear hcz99_1
         try clear hfz104_0
         try clear hfz104_1
         try clear hfz107_0
         try clear hfz107_1
         try clear hfz35_0
         try clear hfz35_1
         try clear hfz40_0
         try clear hfz40_1
         try clear hfz48_0
         try clear hfz48_1
         try clear hfz55_0
         try clear hfz55_1
         try clear hfz58_0
         try clear hfz58_1
         try clear hfz63_0
         try clear hfz63_1
         try clear hfz66_0
         try clear hfz66_1
         try clear hfz88_0
         try clear hfz88_1
         try clear hfz96_0
         try clear hfz96_1
         try clear hfz99_0
         try clear hfz99_1
         try clear p2
         obtain ⟨kq,x86_76,rfl,HA,HJ76,HO_449001,HO_457001,HO_463001,BK433,BK448,BK456,BK462,HB⟩:=hcut
         have hl457001_76:=(Kd.R_reads' HO_457001.out).1
         rw [hl457001_76] at HO_457001
         (try simp only [hl457001_76])
         (try simp only [hl457001_76] at BK433)
         (try simp only [hl457001_76] at BK448)
         (try simp only [hl457001_76] at BK456)
         (try simp only [hl457001_76] at BK462)
         (try simp only [hl457001_76] at HO_449001)
         (try simp only [hl457001_76] at HO_463001)
         cases kq with
         | zero => exact absurd HA.out (by simp [laws_FnExactYoungObject.j1])
         | succ kj76 =>
          have H:=HA.out
          clear HA
          simp only [laws_FnExactYoungObject.j1] at H
          by_cases c109 : x86_76 = true
          ·subst c109
           have H1 : (some false) = some r:=by rw [if_pos rfl] at H;exact H
           clear H
           have H:=H1
           clear H1
           obtain rfl:=Option.some.inj H
           go_wp2
           go_ret
           exact ⟨by first|rfl|(simp [errW_none,errW_some] <;> rfl)|(simp [*,errW_none,errW_some] <;> rfl),by repeat (first|(with_reducible first|exact HB.out|apply below_alloc|apply pw_below_drewN|apply below_drew1|refine below_set ?_ GE433.out|refine below_set ?_ GE448.out|refine below_set ?_ GE456.out|refine below_set ?_ GE462.out)|exact HB.out)⟩
          ·replace c109:=Bool.eq_false_iff.mpr c109
           subst c109
           have H1 : ((laws_markObj.f kj76 t457 t458 1).bind fun bt478 => ((laws_heldObj.f kj76 t457 bt478.2 1).bind fun t480 => (if t480 < 0 then (some false) else (if t480 = bt478.1 then ((laws_toStringS.f kj76 l0).bind fun t481 => ((laws_toNursery.f kj76 a1_0 l1_1).bind fun bt484 => ((impl_YoungObject.f kj76 t481 bt484.1 bt484.2 a2).bind fun bt488 => ((laws_eqObj.f kj76 bt488.1 bt488.2.1 t443 t444).bind fun t494 => (if t494 = true then (laws_FnExactYoungObject.j2 kj76 bt478.1 (bt488.2.2 != t447) t457 bt478.2) else (laws_FnExactYoungObject.j2 kj76 bt478.1 true t457 bt478.2)))))) else (some false))))) = some r:=by rw [if_neg (show ¬ (false = true) by decide)] at H;exact H
           clear H
           have H:=H1
           clear H1
           replace H:=Option.bind_eq_some_iff.mp H
           obtain ⟨⟨t478,t479⟩,A1100,H⟩:=H
           replace H : ((laws_heldObj.f kj76 t457 t479 1).bind fun t480 => (if t480 < 0 then (some false) else (if t480 = t478 then ((laws_toStringS.f kj76 l0).bind fun t481 => ((laws_toNursery.f kj76 a1_0 l1_1).bind fun bt484 => ((impl_YoungObject.f kj76 t481 bt484.1 bt484.2 a2).bind fun bt488 => ((laws_eqObj.f kj76 bt488.1 bt488.2.1 t443 t444).bind fun t494 => (if t494 = true then (laws_FnExactYoungObject.j2 kj76 t478 (bt488.2.2 != t447) t457 t479) else (laws_FnExactYoungObject.j2 kj76 t478 true t457 t479)))))) else (some false)))) = some r:=H
           have A110:=am A1100
           clear A1100
           replace H:=Option.bind_eq_some_iff.mp H
           obtain ⟨t480,A1110,H⟩:=H
           replace H : (if t480 < 0 then (some false) else (if t480 = t478 then ((laws_toStringS.f kj76 l0).bind fun t481 => ((laws_toNursery.f kj76 a1_0 l1_1).bind fun bt484 => ((impl_YoungObject.f kj76 t481 bt484.1 bt484.2 a2).bind fun bt488 => ((laws_eqObj.f kj76 bt488.1 bt488.2.1 t443 t444).bind fun t494 => (if t494 = true then (laws_FnExactYoungObject.j2 kj76 t478 (bt488.2.2 != t447) t457 t479) else (laws_FnExactYoungObject.j2 kj76 t478 true t457 t479)))))) else (some false))) = some r:=H
           have A111:=am A1110
           clear A1110
           by_cases c112 : t480 < 0
           ·rw [if_pos c112] at H
            have c112b0 : decide (t480 < 0) = true:=decide_eq_true c112
            clear c112
            obtain rfl:=Option.some.inj H
            have hnb113:=NB462_433.out
            have hnc113:=NB433_462.out
            have hnb114:=NB462_448.out
            have hnc114:=NB448_462.out
            have hnb115:=NB462_456.out
            have hnc115:=NB456_462.out
            have hcz116_0 : wc.cell? ⟨gb462,0,none⟩ = some (.int .i64 t457):=(blk_cell BK462.out 0).trans rfl
            have hcz116_1 : wc.cell? ⟨gb462,1,none⟩ = some (.slice Ao49 t458.length co49):=(blk_cell BK462.out 1).trans rfl
            have hfz116_0:=blk_frozen BK462.out 0
            have hfz116_1:=blk_frozen BK462.out 1
            go_wp2_with (first|((with_reducible refine gate_callee (f:=36) rfl ?_);refine goesL_ (some 89) rfl rfl Tryd.func36 (by kernel_rfl) rfl #[.agg #[.int .i64 t457,.slice Ao49 t458.length co49],.int .i64 1] rfl (by (try simp only [List.map_toArray,List.map_cons,List.map_nil]);first|done|rfl|(simp only [List.length_drop,List.length_take];rfl)) ?_;(with_reducible refine (laws_markObj.calls kj76 t457 (fun k_ => some k_ = (.slice Ao49 t458.length co49 : Value).ownBlock) (.slice Ao49 t458.length co49) t458 1 t478 t479 w _ ?side1 ?side2 A110.out).mono ?_);(case side1 => repeat (first|(with_reducible first|exact HB.out|apply below_alloc|apply pw_below_drewN|apply below_drew1|refine below_set ?_ GE433.out|refine below_set ?_ GE448.out|refine below_set ?_ GE456.out|refine below_set ?_ GE462.out)|exact HB.out));(case side2 => exact Kd.R_tight rfl HO_463001.out);rintro e w117 ⟨rfl,hy0,hb,hkp⟩;refine ⟨_,rfl,?_⟩;have n0_:=am (Kd.R_mono (ok':=fun k_ => some k_≠(.slice Ao41 t476.length co41 : Value).ownBlock∧some k_≠(.slice Ao49 t458.length co49 : Value).ownBlock) (Kd.R_keptB (HO_449001.out) hkp (fun k_ hk_ hs_ => by first|exact hk_.2 hs_|exact hk_ hs_)) (fun k_ hk_ => by first|exact ⟨hk_.1.1,hk_.1.2⟩|(simp only [and_assoc] at hk_;exact ⟨hk_.1,hk_.2.1⟩)));have n1_:=am (Kd.R_mono (ok':=fun k_ => some k_≠(.slice Ao31 t444.length co31 : Value).ownBlock∧some k_≠(.slice Ao49 t458.length co49 : Value).ownBlock) (Kd.R_keptB (HO_457001.out) hkp (fun k_ hk_ hs_ => by first|exact hk_.2 hs_|exact hk_ hs_)) (fun k_ hk_ => by first|exact ⟨hk_.1.1,hk_.1.2⟩|(simp only [and_assoc] at hk_;exact ⟨hk_.1,hk_.2.1⟩)));have n2_:=am (Kd.R_reok rfl hy0 (fun k_ e_ => HO_463001.out.1 k_ e_));have n3_:=am (blk_kept (bup BK433.out) hkp (fun hs_ => (fun e_ => (Kd.R_ne HO_463001.out BK433.out (by decide)) e_) hs_));have n4_:=am (blk_kept (bup BK448.out) hkp (fun hs_ => (fun e_ => (Kd.R_ne HO_463001.out BK448.out (by decide)) e_) hs_));have n5_:=am (blk_kept (bup BK456.out) hkp (fun hs_ => (fun e_ => (Kd.R_ne HO_463001.out BK456.out (by decide)) e_) hs_));have n6_:=am (blk_kept (bup BK462.out) hkp (fun hs_ => (fun e_ => (Kd.R_ne HO_463001.out BK462.out (by decide)) e_) hs_));have n7_:=am (hb);clear HO_449001 HO_457001 HO_463001 BK433 BK448 BK456 BK462 HB;have HO_449001:=n0_;have HO_457001:=n1_;have HO_463001:=n2_;have BK433:=n3_;have BK448:=n4_;have BK456:=n5_;have BK462:=n6_;have HB:=n7_;clear n0_ n1_ n2_ n3_ n4_ n5_ n6_ n7_;(try clear hb);(try clear hkp);(try clear hy0);have hcz118_0 : w117.cell? ⟨gb462,0,none⟩ = some (.int .i64 t457):=(blk_cell BK462.out 0).trans rfl;have hcz118_1 : w117.cell? ⟨gb462,1,none⟩ = some (.slice Ao49 t458.length co49):=(blk_cell BK462.out 1).trans rfl;have hfz118_0:=blk_frozen BK462.out 0;have hfz118_1:=blk_frozen BK462.out 1)|((with_reducible refine gate_callee (f:=37) rfl ?_);refine goesL_ (some 92) rfl rfl Tryd.func37 (by kernel_rfl) rfl #[.agg #[.int .i64 t457,.slice Ao49 t479.length co49],.int .i64 1] rfl (by (try simp only [List.map_toArray,List.map_cons,List.map_nil]);first|done|(rw [show t479.length = t458.length from (Kd.R_reads' HO_463001.out).1.symm] <;> rfl)|rfl|(simp only [List.length_drop,List.length_take];rfl)) ?_;(with_reducible refine (laws_heldObj.calls kj76 t457 _ _ t479 1 t480 _ ?side1 ?side2 A111.out).mono ?_);(case side1 => repeat (first|exact (Kd.R_reads' HO_463001.out).2.2|(with_reducible first|refine Kd.C_alloc ?_ _|refine Kd.C_drewN ?_ _|refine Kd.C_drew ?_)));(case side2 => rw [show t479.length = t458.length from (Kd.R_reads' HO_463001.out).1.symm];exact (Kd.R_reads' HO_463001.out).2.1);rintro e w119 ⟨rfl,hb⟩;refine ⟨_,rfl,?_⟩;have n0_:=am (Kd.R_below (kup HO_449001.out) hb);have n1_:=am (Kd.R_below (kup HO_457001.out) hb);have n2_:=am (Kd.R_below (kup HO_463001.out) hb);have n3_:=am (blk_below (bup BK433.out) hb);have n4_:=am (blk_below (bup BK448.out) hb);have n5_:=am (blk_below (bup BK456.out) hb);have n6_:=am (blk_below (bup BK462.out) hb);have n7_:=am (below_step (lup HB.out) hb);clear HO_449001 HO_457001 HO_463001 BK433 BK448 BK456 BK462 HB;have HO_449001:=n0_;have HO_457001:=n1_;have HO_463001:=n2_;have BK433:=n3_;have BK448:=n4_;have BK456:=n5_;have BK462:=n6_;have HB:=n7_;clear n0_ n1_ n2_ n3_ n4_ n5_ n6_ n7_;(try clear hb);(try clear hb2);(try clear hk);(try clear hi)))
            go_ret
            exact ⟨by first|rfl|(simp [errW_none,errW_some] <;> rfl)|(simp [*,errW_none,errW_some] <;> rfl),by repeat (first|(with_reducible first|exact HB.out|apply below_alloc|apply pw_below_drewN|apply below_drew1|refine below_set ?_ GE433.out|refine below_set ?_ GE448.out|refine below_set ?_ GE456.out|refine below_set ?_ GE462.out)|exact HB.out)⟩
           ·rw [if_neg c112] at H
            have c112b0 : decide (t480 < 0) = false:=decide_eq_false c112
            clear c112
            by_cases c120 : t480 = t478
            ·rw [if_pos c120] at H
             have c120b0 : (t480 == t478) = true:=beq_iff_eq.mpr c120
             have c120b1 : (t480 != t478) = false:=bne_eq_false_iff_eq.mpr c120
             clear c120
             replace H:=Option.bind_eq_some_iff.mp H
             obtain ⟨t481,A1210,H⟩:=H
             replace H : ((laws_toNursery.f kj76 a1_0 l1_1).bind fun bt484 => ((impl_YoungObject.f kj76 t481 bt484.1 bt484.2 a2).bind fun bt488 => ((laws_eqObj.f kj76 bt488.1 bt488.2.1 t443 t444).bind fun t494 => (if t494 = true then (laws_FnExactYoungObject.j2 kj76 t478 (bt488.2.2 != t447) t457 t479) else (laws_FnExactYoungObject.j2 kj76 t478 true t457 t479))))) = some r:=H
             have A121:=am A1210
             clear A1210
             replace H:=Option.bind_eq_some_iff.mp H
             obtain ⟨⟨t484,t485⟩,A1220,H⟩:=H
             replace H : ((impl_YoungObject.f kj76 t481 t484 t485 a2).bind fun bt488 => ((laws_eqObj.f kj76 bt488.1 bt488.2.1 t443 t444).bind fun t494 => (if t494 = true then (laws_FnExactYoungObject.j2 kj76 t478 (bt488.2.2 != t447) t457 t479) else (laws_FnExactYoungObject.j2 kj76 t478 true t457 t479)))) = some r:=H
             have A122:=am A1220
             clear A1220
             replace H:=Option.bind_eq_some_iff.mp H
             obtain ⟨⟨t488,t489,t492⟩,A1230,H⟩:=H
             replace H : ((laws_eqObj.f kj76 t488 t489 t443 t444).bind fun t494 => (if t494 = true then (laws_FnExactYoungObject.j2 kj76 t478 (t492 != t447) t457 t479) else (laws_FnExactYoungObject.j2 kj76 t478 true t457 t479))) = some r:=H
             have A123:=am A1230
             clear A1230
             have HC124:=am H
             clear H
             have hnb125:=NB462_433.out
             have hnc125:=NB433_462.out
             have hnb126:=NB462_448.out
             have hnc126:=NB448_462.out
             have hnb127:=NB462_456.out
             have hnc127:=NB456_462.out
             have hcz128_0 : wc.cell? ⟨gb462,0,none⟩ = some (.int .i64 t457):=(blk_cell BK462.out 0).trans rfl
             have hcz128_1 : wc.cell? ⟨gb462,1,none⟩ = some (.slice Ao49 t458.length co49):=(blk_cell BK462.out 1).trans rfl
             have hfz128_0:=blk_frozen BK462.out 0
             have hfz128_1:=blk_frozen BK462.out 1
             try go_wp2_with (first|((with_reducible refine gate_callee (f:=36) rfl ?_);refine goesL_ (some 89) rfl rfl Tryd.func36 (by kernel_rfl) rfl #[.agg #[.int .i64 t457,.slice Ao49 t458.length co49],.int .i64 1] rfl (by (try simp only [List.map_toArray,List.map_cons,List.map_nil]);first|done|rfl|(simp only [List.length_drop,List.length_take];rfl)) ?_;(with_reducible refine (laws_markObj.calls kj76 t457 (fun k_ => some k_ = (.slice Ao49 t458.length co49 : Value).ownBlock) (.slice Ao49 t458.length co49) t458 1 t478 t479 w _ ?side1 ?side2 A110.out).mono ?_);(case side1 => repeat (first|(with_reducible first|exact HB.out|apply below_alloc|apply pw_below_drewN|apply below_drew1|refine below_set ?_ GE433.out|refine below_set ?_ GE448.out|refine below_set ?_ GE456.out|refine below_set ?_ GE462.out)|exact HB.out));(case side2 => exact Kd.R_tight rfl HO_463001.out);rintro e w129 ⟨rfl,hy0,hb,hkp⟩;refine ⟨_,rfl,?_⟩;have n0_:=am (Kd.R_mono (ok':=fun k_ => some k_≠(.slice Ao41 t476.length co41 : Value).ownBlock∧some k_≠(.slice Ao49 t458.length co49 : Value).ownBlock) (Kd.R_keptB (HO_449001.out) hkp (fun k_ hk_ hs_ => by first|exact hk_.2 hs_|exact hk_ hs_)) (fun k_ hk_ => by first|exact ⟨hk_.1.1,hk_.1.2⟩|(simp only [and_assoc] at hk_;exact ⟨hk_.1,hk_.2.1⟩)));have n1_:=am (Kd.R_mono (ok':=fun k_ => some k_≠(.slice Ao31 t444.length co31 : Value).ownBlock∧some k_≠(.slice Ao49 t458.length co49 : Value).ownBlock) (Kd.R_keptB (HO_457001.out) hkp (fun k_ hk_ hs_ => by first|exact hk_.2 hs_|exact hk_ hs_)) (fun k_ hk_ => by first|exact ⟨hk_.1.1,hk_.1.2⟩|(simp only [and_assoc] at hk_;exact ⟨hk_.1,hk_.2.1⟩)));have n2_:=am (Kd.R_reok rfl hy0 (fun k_ e_ => HO_463001.out.1 k_ e_));have n3_:=am (blk_kept (bup BK433.out) hkp (fun hs_ => (fun e_ => (Kd.R_ne HO_463001.out BK433.out (by decide)) e_) hs_));have n4_:=am (blk_kept (bup BK448.out) hkp (fun hs_ => (fun e_ => (Kd.R_ne HO_463001.out BK448.out (by decide)) e_) hs_));have n5_:=am (blk_kept (bup BK456.out) hkp (fun hs_ => (fun e_ => (Kd.R_ne HO_463001.out BK456.out (by decide)) e_) hs_));have n6_:=am (blk_kept (bup BK462.out) hkp (fun hs_ => (fun e_ => (Kd.R_ne HO_463001.out BK462.out (by decide)) e_) hs_));have n7_:=am (hb);clear HO_449001 HO_457001 HO_463001 BK433 BK448 BK456 BK462 HB;have HO_449001:=n0_;have HO_457001:=n1_;have HO_463001:=n2_;have BK433:=n3_;have BK448:=n4_;have BK456:=n5_;have BK462:=n6_;have HB:=n7_;clear n0_ n1_ n2_ n3_ n4_ n5_ n6_ n7_;(try clear hb);(try clear hkp);(try clear hy0);have hcz130_0 : w129.cell? ⟨gb462,0,none⟩ = some (.int .i64 t457):=(blk_cell BK462.out 0).trans rfl;have hcz130_1 : w129.cell? ⟨gb462,1,none⟩ = some (.slice Ao49 t458.length co49):=(blk_cell BK462.out 1).trans rfl;have hfz130_0:=blk_frozen BK462.out 0;have hfz130_1:=blk_frozen BK462.out 1)|((with_reducible refine gate_callee (f:=37) rfl ?_);refine goesL_ (some 92) rfl rfl Tryd.func37 (by kernel_rfl) rfl #[.agg #[.int .i64 t457,.slice Ao49 t479.length co49],.int .i64 1] rfl (by (try simp only [List.map_toArray,List.map_cons,List.map_nil]);first|done|(rw [show t479.length = t458.length from (Kd.R_reads' HO_463001.out).1.symm] <;> rfl)|rfl|(simp only [List.length_drop,List.length_take];rfl)) ?_;(with_reducible refine (laws_heldObj.calls kj76 t457 _ _ t479 1 t480 _ ?side1 ?side2 A111.out).mono ?_);(case side1 => repeat (first|exact (Kd.R_reads' HO_463001.out).2.2|(with_reducible first|refine Kd.C_alloc ?_ _|refine Kd.C_drewN ?_ _|refine Kd.C_drew ?_)));(case side2 => rw [show t479.length = t458.length from (Kd.R_reads' HO_463001.out).1.symm];exact (Kd.R_reads' HO_463001.out).2.1);rintro e w131 ⟨rfl,hb⟩;refine ⟨_,rfl,?_⟩;have n0_:=am (Kd.R_below (kup HO_449001.out) hb);have n1_:=am (Kd.R_below (kup HO_457001.out) hb);have n2_:=am (Kd.R_below (kup HO_463001.out) hb);have n3_:=am (blk_below (bup BK433.out) hb);have n4_:=am (blk_below (bup BK448.out) hb);have n5_:=am (blk_below (bup BK456.out) hb);have n6_:=am (blk_below (bup BK462.out) hb);have n7_:=am (below_step (lup HB.out) hb);clear HO_449001 HO_457001 HO_463001 BK433 BK448 BK456 BK462 HB;have HO_449001:=n0_;have HO_457001:=n1_;have HO_463001:=n2_;have BK433:=n3_;have BK448:=n4_;have BK456:=n5_;have BK462:=n6_;have HB:=n7_;clear n0_ n1_ n2_ n3_ n4_ n5_ n6_ n7_;(try clear hb);(try clear hb2);(try clear hk);(try clear hi)))
             have n0_:=am (Kd.R_drew HO_449001.out)
             have n1_:=am (Kd.R_drew HO_457001.out)
             have n2_:=am (Kd.R_drew HO_463001.out)
             have n3_:=am (blk_drew BK433.out)
             have n4_:=am (blk_drew BK448.out)
             have n5_:=am (blk_drew BK456.out)
             have n6_:=am (blk_drew BK462.out)
             have n7_:=am (below_drew1 HB.out)
             clear HO_449001
             clear HO_457001
             clear HO_463001
             clear BK433
             clear BK448
             clear BK456
             clear BK462
             clear HB
             have HO_449001:=n0_
             have HO_457001:=n1_
             have HO_463001:=n2_
             have BK433:=n3_
             have BK448:=n4_
             have BK456:=n5_
             have BK462:=n6_
             have HB:=n7_
             clear n0_ n1_ n2_ n3_ n4_ n5_ n6_ n7_
             refine start_ (n:=12) (S:=fun w' => w'.cell? ⟨gb433,0,none⟩ = some (.int .i64 a1_0)∧w'.cell? ⟨gb433,1,none⟩ = some (.slice A1_1 l1_1.length c1_1)) (ds:=[]) #[false,false,false,false,false,false,false,false,false,false,false,false] (by kernel_rfl) rfl rfl ⟨(blk_cell BK433.out 0).trans rfl,(blk_cell BK433.out 1).trans rfl⟩ (fun hHeld => ?_);refine with_tabW laws_FnExactYoungObject.tab31 laws_FnExactYoungObject.bits31 (fun HT_ HW_ => ?_)
             generalize w131.drew = w132 at HO_449001 HO_457001 HO_463001 BK433 BK448 BK456 BK462 HB hHeld ⊢
             refine pure_ (i:=0) (N:=some 99) (v:=?_) (a':=?_) #[true,false,false,false,false,false,false,false,false,false,false,false] rfl rfl (any_of HT_.out (by kernel_rfl)) (fun _ _ _ h => h) (Or.inl ⟨by rfl,?_⟩) ?_ ?_
             rotate_left
             ·intro w'
              go_simp
              with_reducible rfl
             rotate_left
             ·simp only [Act.put,List.setIfInBounds_toArray,List.set_cons_zero,List.set_cons_succ,i64_w,i32_w]
              rfl
             refine pure_ (i:=4) (N:=some 103) (v:=?_) (a':=?_) #[true,false,false,false,true,false,false,false,false,false,false,false] rfl rfl (any_of HT_.out (by kernel_rfl)) (fun _ _ _ h => h) (Or.inl ⟨by rfl,?_⟩) ?_ ?_
             rotate_left
             ·intro w'
              go_simp
              with_reducible rfl
             rotate_left
             ·simp only [Act.put,List.setIfInBounds_toArray,List.set_cons_zero,List.set_cons_succ,i64_w,i32_w]
              rfl
             refine take_ (i:=2) (N:=some 101) (v:=?_) (a':=?_) #[true,false,true,false,true,false,false,false,false,false,false,false] rfl rfl (take_ofW HT_.out HW_.out (by kernel_rfl)) (fun _ _ _ h => h) (Or.inl ⟨by rfl,?_⟩) hHeld ?_ ?_
             rotate_left
             ·rintro w' ⟨s0,s1⟩
              go_simp
              with_reducible rfl
             rotate_left
             ·simp only [Act.put,List.setIfInBounds_toArray,List.set_cons_zero,List.set_cons_succ,i64_w,i32_w]
              rfl
             refine join_ (σ:=Value × Value × Value × Nat) 2 #[true,true,true,true,true,true,true,true,true,true,false,false] (fun s_ => [(100,s_.1),(102,.agg #[.int .i64 t484,s_.2.1]),(104,.tuple #[.agg #[.int .i64 t488,s_.2.2.1],.bool t492]),(17,.pointer (some ⟨s_.2.2.2,0,none⟩)),(98,.tuple #[.agg #[.int .i64 t488,s_.2.2.1],.bool t492]),(105,.agg #[.int .i64 t488,s_.2.2.1]),(106,.bool t492)]) (fun s_ w' => (w'.cell? ⟨gb433,0,none⟩ = some (.int .i64 a1_0)∧w'.cell? ⟨gb433,1,none⟩ = some (.slice A1_1 l1_1.length c1_1))∧(Kd.R Kd.string 9 w' w.heap.size (fun _ => True) s_.1 t481)∧(Kd.R (Kd.int .i64) 2 w' w.heap.size (fun k_ => some k_≠(s_.2.2.1 : Value).ownBlock∧some k_≠(.slice Ao31 t444.length co31 : Value).ownBlock∧some k_≠(.slice Ao41 t476.length co41 : Value).ownBlock∧some k_≠(.slice Ao49 t458.length co49 : Value).ownBlock) s_.2.1 t485)∧(Kd.R (Kd.int .i64) 2 w' w.heap.size (fun k_ => some k_≠(s_.2.1 : Value).ownBlock∧some k_≠(.slice Ao31 t444.length co31 : Value).ownBlock∧some k_≠(.slice Ao41 t476.length co41 : Value).ownBlock∧some k_≠(.slice Ao49 t458.length co49 : Value).ownBlock) s_.2.2.1 t489)∧(Kd.R (Kd.int .i64) 2 w' w.heap.size (fun k_ => some k_≠(s_.2.1 : Value).ownBlock∧some k_≠(s_.2.2.1 : Value).ownBlock∧some k_≠(.slice Ao41 t476.length co41 : Value).ownBlock∧some k_≠(.slice Ao49 t458.length co49 : Value).ownBlock) (.slice Ao31 t444.length co31) t444)∧(Kd.R (Kd.int .i64) 2 w' w.heap.size (fun k_ => some k_≠(s_.2.1 : Value).ownBlock∧some k_≠(s_.2.2.1 : Value).ownBlock∧some k_≠(.slice Ao31 t444.length co31 : Value).ownBlock∧some k_≠(.slice Ao49 t458.length co49 : Value).ownBlock) (.slice Ao41 t476.length co41) t476)∧(Kd.R (Kd.int .i64) 2 w' w.heap.size (fun k_ => some k_≠(s_.2.1 : Value).ownBlock∧some k_≠(s_.2.2.1 : Value).ownBlock∧some k_≠(.slice Ao31 t444.length co31 : Value).ownBlock∧some k_≠(.slice Ao41 t476.length co41 : Value).ownBlock) (.slice Ao49 t458.length co49) t479)∧(w'.heap[gb433]? = some (.cells #[.int .i64 a1_0,.slice A1_1 l1_1.length c1_1] 25 (0,0)))∧(w'.heap[gb448]? = some (.cells #[.int .i64 t443,.slice Ao31 t444.length co31] 40 (0,0)))∧(w'.heap[gb456]? = some (.cells #[.int .i64 t452,.slice Ao41 t476.length co41] 30 (0,0)))∧(w'.heap[gb462]? = some (.cells #[.int .i64 t457,.slice Ao49 t458.length co49] 40 (0,0)))∧(w'.heap[s_.2.2.2]? = some (.cells #[.int .i64 0,.slice none 0 0] 40 (0,0)))∧(w.heap.size ≤ s_.2.2.2)∧(w.heap.size ≤ s_.2.2.2)∧(gb433≠s_.2.2.2)∧(s_.2.2.2≠gb433)∧(gb448≠s_.2.2.2)∧(s_.2.2.2≠gb448)∧(gb456≠s_.2.2.2)∧(s_.2.2.2≠gb456)∧(gb462≠s_.2.2.2)∧(s_.2.2.2≠gb462)∧(Below w.heap.size w w')) ?_ ?_
             rotate_left
             ·intro hCont
              refine two_ (i:=1) (j:=9) (Ni:=some 100) (Nj:=some 17) #[true,true,true,false,true,false,false,false,false,false,false,false] #[true,false,true,false,true,false,false,false,false,true,false,false] rfl rfl rfl rfl (two_of HT_.out (by kernel_rfl)) (by decide) (by decide) (fun K hK => ?_) (fun K hK => ?_)
              ·skip
               refine goes_ Tryd.func19 (by kernel_rfl) rfl #[.slice A0 l0.length c0] (by rfl) rfl rfl (by (try simp only [List.map_toArray,List.map_cons,List.map_nil]);first|done|rfl|(simp only [List.length_drop,List.length_take];rfl)) ?_
               with_reducible refine (laws_toStringS.calls kj76 _ _ l0 t481 _ ?side1 ?side2 A121.out).mono ?_
               (case side1 => repeat (first|exact (Kd.C_below HR0.out HB.out)|(with_reducible first|refine Kd.C_alloc ?_ _|refine Kd.C_drewN ?_ _|refine Kd.C_drew ?_)))
               (case side2 => exact HC0.out)
               rintro e w133 ⟨v482,rfl,ho0,hb⟩
               refine ⟨_,rfl,?_⟩
               have n0_:=am (Kd.R_below (kup HO_449001.out) hb)
               have n1_:=am (Kd.R_below (kup HO_457001.out) hb)
               have n2_:=am (Kd.R_below (kup HO_463001.out) hb)
               have n3_:=am (Kd.R_lower ho0 (below_size (lup HB.out)))
               have n4_:=am (blk_below (bup BK433.out) hb)
               have n5_:=am (blk_below (bup BK448.out) hb)
               have n6_:=am (blk_below (bup BK456.out) hb)
               have n7_:=am (blk_below (bup BK462.out) hb)
               have n8_:=am (below_step (lup HB.out) hb)
               clear HO_449001
               clear HO_457001
               clear HO_463001
               clear BK433
               clear BK448
               clear BK456
               clear BK462
               clear HB
               have HO_449001:=n0_
               have HO_457001:=n1_
               have HO_463001:=n2_
               have HO483:=n3_
               have BK433:=n4_
               have BK448:=n5_
               have BK456:=n6_
               have BK462:=n7_
               have HB:=n8_
               clear n0_ n1_ n2_ n3_ n4_ n5_ n6_ n7_ n8_
               (try clear hb)
               (try clear hb2)
               (try clear hk)
               (try clear hi)
               (try clear ho0)
               refine hK.out _ _ ⟨(blk_cell BK433.out 0).trans rfl,(blk_cell BK433.out 1).trans rfl⟩ (fun hHeld => ?_)
               clear hK K
               refine norm_ (a':=?_) ?_ ?_
               rotate_left
               ·show Act.put _ (some 100) _ = _
                simp only [Act.put,List.setIfInBounds_toArray,List.set_cons_zero,List.set_cons_succ,i64_w,i32_w]
                rfl
               refine two_ (i:=3) (j:=9) (Ni:=some 102) (Nj:=some 17) #[true,true,true,true,true,false,false,false,false,false,false,false] #[true,true,true,false,true,false,false,false,false,true,false,false] rfl rfl rfl rfl (two_of HT_.out (by kernel_rfl)) (by decide) (by decide) (fun K hK => ?_) (fun K hK => ?_)
               ·skip
                refine goes_ Tryd.func20 (by kernel_rfl) rfl #[.agg #[.int .i64 a1_0,.slice A1_1 l1_1.length c1_1]] (by rfl) rfl rfl (by (try simp only [List.map_toArray,List.map_cons,List.map_nil]);first|done|rfl|(simp only [List.length_drop,List.length_take];rfl)) ?_
                with_reducible refine (laws_toNursery.calls kj76 a1_0 _ _ l1_1 t484 t485 _ ?side1 ?side2 A122.out).mono ?_
                (case side1 => repeat (first|exact (Kd.C_below HR1_1.out HB.out)|(with_reducible first|refine Kd.C_alloc ?_ _|refine Kd.C_drewN ?_ _|refine Kd.C_drew ?_)))
                (case side2 => exact HC1_1.out)
                rintro e w134 ⟨v486,rfl,ho0,hb⟩
                refine ⟨_,rfl,?_⟩
                have n0_:=am (Kd.R_elder' (kup HO_449001.out) (Kd.R_base ho0) hb)
                have n1_:=am (Kd.R_elder' (kup HO_457001.out) (Kd.R_base ho0) hb)
                have n2_:=am (Kd.R_elder' (kup HO_463001.out) (Kd.R_base ho0) hb)
                have n3_:=am (Kd.R_below (kup HO483.out) hb)
                have n4_:=am (Kd.R_lower (Kd.R_new' (Kd.R_new' (Kd.R_new' ho0 (Kd.R_lt (kup HO_449001.out))) (Kd.R_lt (kup HO_457001.out))) (Kd.R_lt (kup HO_463001.out))) (below_size (lup HB.out)))
                have n5_:=am (blk_below (bup BK433.out) hb)
                have n6_:=am (blk_below (bup BK448.out) hb)
                have n7_:=am (blk_below (bup BK456.out) hb)
                have n8_:=am (blk_below (bup BK462.out) hb)
                have n9_:=am (below_step (lup HB.out) hb)
                clear HO_449001
                clear HO_457001
                clear HO_463001
                clear HO483
                clear BK433
                clear BK448
                clear BK456
                clear BK462
                clear HB
                have HO_449001:=n0_
                have HO_457001:=n1_
                have HO_463001:=n2_
                have HO483:=n3_
                have HO487:=n4_
                have BK433:=n5_
                have BK448:=n6_
                have BK456:=n7_
                have BK462:=n8_
                have HB:=n9_
                clear n0_ n1_ n2_ n3_ n4_ n5_ n6_ n7_ n8_ n9_
                (try clear hb)
                (try clear hb2)
                (try clear hk)
                (try clear hi)
                (try clear ho0)
                obtain ⟨Ao135,co135,eo135⟩:=Kd.R_slice HO483.out
                (first|subst eo135|(injection eo135 with f1_ f2_ f3_;have f4_:=f1_.symm;have f5_:=f3_.symm;clear f1_ f2_ f3_;subst f4_;subst f5_))
                obtain ⟨Ao136,co136,eo136⟩:=Kd.R_slice HO487.out
                (first|subst eo136|(injection eo136 with f1_ f2_ f3_;have f4_:=f1_.symm;have f5_:=f3_.symm;clear f1_ f2_ f3_;subst f4_;subst f5_))
                refine hK.out _ _ ⟨(blk_cell BK433.out 0).trans rfl,(blk_cell BK433.out 1).trans rfl⟩ (fun hHeld => ?_)
                clear hK K
                refine norm_ (a':=?_) ?_ ?_
                rotate_left
                ·show Act.put _ (some 102) _ = _
                 simp only [Act.put,List.setIfInBounds_toArray,List.set_cons_zero,List.set_cons_succ,i64_w,i32_w]
                 rfl
                refine two_ (i:=5) (j:=9) (Ni:=some 104) (Nj:=some 17) #[true,true,true,true,true,true,false,false,false,false,false,false] #[true,true,true,true,true,false,false,false,false,true,false,false] rfl rfl rfl rfl (two_of HT_.out (by kernel_rfl)) (by decide) (by decide) (fun K hK => ?_) (fun K hK => ?_)
                ·skip
                 refine goes_ Tryd.func34 (by kernel_rfl) rfl #[.slice Ao135 t481.length co135,.agg #[.int .i64 t484,.slice Ao136 t485.length co136],.int .i64 a2] (by rfl) rfl rfl (by (try simp only [List.map_toArray,List.map_cons,List.map_nil]);first|done|rfl|(simp only [List.length_drop,List.length_take];rfl)) ?_
                 with_reducible refine (impl_YoungObject.calls kj76 _ _ t481 t484 _ _ t485 a2 t488 t489 t492 _ ?side1 ?side2 ?side3 ?side4 A123.out).mono ?_
                 (case side1 => repeat (first|exact (Kd.R_reads' HO483.out).2.2|(with_reducible first|refine Kd.C_alloc ?_ _|refine Kd.C_drewN ?_ _|refine Kd.C_drew ?_)))
                 (case side2 => exact (Kd.R_reads' HO483.out).2.1)
                 (case side3 => repeat (first|exact (Kd.R_reads' HO487.out).2.2|(with_reducible first|refine Kd.C_alloc ?_ _|refine Kd.C_drewN ?_ _|refine Kd.C_drew ?_)))
                 (case side4 => exact (Kd.R_reads' HO487.out).2.1)
                 rintro e w137 ⟨v490,rfl,ho0,hb⟩
                 refine ⟨_,rfl,?_⟩
                 have n0_:=am (Kd.R_elder' (kup HO_449001.out) (Kd.R_base ho0) hb)
                 have n1_:=am (Kd.R_elder' (kup HO_457001.out) (Kd.R_base ho0) hb)
                 have n2_:=am (Kd.R_elder' (kup HO_463001.out) (Kd.R_base ho0) hb)
                 have n3_:=am (Kd.R_below (kup HO483.out) hb)
                 have n4_:=am (Kd.R_elder' (kup HO487.out) (Kd.R_base ho0) hb)
                 have n5_:=am (Kd.R_lower (Kd.R_new' (Kd.R_new' (Kd.R_new' (Kd.R_new' ho0 (Kd.R_lt (kup HO_449001.out))) (Kd.R_lt (kup HO_457001.out))) (Kd.R_lt (kup HO_463001.out))) (Kd.R_lt (kup HO487.out))) (below_size (lup HB.out)))
                 have n6_:=am (blk_below (bup BK433.out) hb)
                 have n7_:=am (blk_below (bup BK448.out) hb)
                 have n8_:=am (blk_below (bup BK456.out) hb)
                 have n9_:=am (blk_below (bup BK462.out) hb)
                 have n10_:=am (below_step (lup HB.out) hb)
                 clear HO_449001
                 clear HO_457001
                 clear HO_463001
                 clear HO483
                 clear HO487
                 clear BK433
                 clear BK448
                 clear BK456
                 clear BK462
                 clear HB
                 have HO_449001:=n0_
                 have HO_457001:=n1_
                 have HO_463001:=n2_
                 have HO483:=n3_
                 have HO487:=n4_
                 have HO491:=n5_
                 have BK433:=n6_
                 have BK448:=n7_
                 have BK456:=n8_
                 have BK462:=n9_
                 have HB:=n10_
                 clear n0_ n1_ n2_ n3_ n4_ n5_ n6_ n7_ n8_ n9_ n10_
                 (try clear hb)
                 (try clear hb2)
                 (try clear hk)
                 (try clear hi)
                 (try clear ho0)
                 refine hK.out _ _ ⟨(blk_cell BK433.out 0).trans rfl,(blk_cell BK433.out 1).trans rfl⟩ (fun hHeld => ?_)
                 clear hK K
                 refine norm_ (a':=?_) ?_ ?_
                 rotate_left
                 ·show Act.put _ (some 104) _ = _
                  simp only [Act.put,List.setIfInBounds_toArray,List.set_cons_zero,List.set_cons_succ,i64_w,i32_w]
                  rfl
                 refine pure_ (i:=6) (N:=some 98) (v:=?_) (a':=?_) #[true,true,true,true,true,true,true,false,false,false,false,false] rfl rfl (any_of HT_.out (by kernel_rfl)) (fun _ _ _ h => h) (Or.inl ⟨by rfl,?_⟩) ?_ ?_
                 rotate_left
                 ·intro w'
                  go_simp
                  with_reducible rfl
                 rotate_left
                 ·simp only [Act.put,List.setIfInBounds_toArray,List.set_cons_zero,List.set_cons_succ,i64_w,i32_w]
                  rfl
                 refine pure_ (i:=7) (N:=some 105) (v:=?_) (a':=?_) #[true,true,true,true,true,true,true,true,false,false,false,false] rfl rfl (any_of HT_.out (by kernel_rfl)) (fun _ _ _ h => h) (Or.inl ⟨by rfl,?_⟩) ?_ ?_
                 rotate_left
                 ·intro w'
                  go_simp
                  with_reducible rfl
                 rotate_left
                 ·simp only [Act.put,List.setIfInBounds_toArray,List.set_cons_zero,List.set_cons_succ,i64_w,i32_w]
                  rfl
                 refine pure_ (i:=8) (N:=some 106) (v:=?_) (a':=?_) #[true,true,true,true,true,true,true,true,true,false,false,false] rfl rfl (any_of HT_.out (by kernel_rfl)) (fun _ _ _ h => h) (Or.inl ⟨by rfl,?_⟩) ?_ ?_
                 rotate_left
                 ·intro w'
                  go_simp
                  with_reducible rfl
                 rotate_left
                 ·simp only [Act.put,List.setIfInBounds_toArray,List.set_cons_zero,List.set_cons_succ,i64_w,i32_w]
                  rfl
                 refine one_ (i:=9) (N:=some 17) #[true,true,true,true,true,true,true,true,true,true,false,false] rfl rfl (one_of HT_.out (by kernel_rfl)) (by decide) (fun K hK => ?_)
                 refine box_step ?hg (N:=17) ?hd (cs:=#[.int .i64 0,.slice none 0 0]) (t:=40) ?hr ?_;(case hd => rfl);(case hg => rfl);(case hr => first|(go_simp;done)|(go_simp;rfl))
                 intro gb493 hg w138 hbox hb
                 have n0_:=am (Kd.R_below (kup HO_449001.out) hb)
                 have n1_:=am (Kd.R_below (kup HO_457001.out) hb)
                 have n2_:=am (Kd.R_below (kup HO_463001.out) hb)
                 have n3_:=am (Kd.R_below (kup HO483.out) hb)
                 have n4_:=am (Kd.R_below (kup HO487.out) hb)
                 have n5_:=am (Kd.R_below (kup HO491.out) hb)
                 have n6_:=am (blk_below (bup BK433.out) hb)
                 have n7_:=am (blk_below (bup BK448.out) hb)
                 have n8_:=am (blk_below (bup BK456.out) hb)
                 have n9_:=am (blk_below (bup BK462.out) hb)
                 have n10_:=am (below_step (lup HB.out) hb)
                 have n11_:=am (hbox)
                 have n12_:=am ((by rw [hg];exact (below_size (lup HB.out)) : w.heap.size ≤ gb493))
                 have n13_:=am ((by rw [hg];exact (below_size (lup HB.out)) : w.heap.size ≤ gb493))
                 have n14_:=am ((by rw [hg];exact Nat.ne_of_lt (blk_lt (bup BK433.out)) : gb433≠gb493))
                 have n15_:=am ((by rw [hg];exact Nat.ne_of_gt (blk_lt (bup BK433.out)) : gb493≠gb433))
                 have n16_:=am ((by rw [hg];exact Nat.ne_of_lt (blk_lt (bup BK448.out)) : gb448≠gb493))
                 have n17_:=am ((by rw [hg];exact Nat.ne_of_gt (blk_lt (bup BK448.out)) : gb493≠gb448))
                 have n18_:=am ((by rw [hg];exact Nat.ne_of_lt (blk_lt (bup BK456.out)) : gb456≠gb493))
                 have n19_:=am ((by rw [hg];exact Nat.ne_of_gt (blk_lt (bup BK456.out)) : gb493≠gb456))
                 have n20_:=am ((by rw [hg];exact Nat.ne_of_lt (blk_lt (bup BK462.out)) : gb462≠gb493))
                 have n21_:=am ((by rw [hg];exact Nat.ne_of_gt (blk_lt (bup BK462.out)) : gb493≠gb462))
                 clear HO_449001
                 clear HO_457001
                 clear HO_463001
                 clear HO483
                 clear HO487
                 clear HO491
                 clear BK433
                 clear BK448
                 clear BK456
                 clear BK462
                 clear HB
                 have HO_449001:=n0_
                 have HO_457001:=n1_
                 have HO_463001:=n2_
                 have HO483:=n3_
                 have HO487:=n4_
                 have HO491:=n5_
                 have BK433:=n6_
                 have BK448:=n7_
                 have BK456:=n8_
                 have BK462:=n9_
                 have HB:=n10_
                 have BK493:=n11_
                 have GW493:=n12_
                 have GE493:=n13_
                 have NB433_493:=n14_
                 have NB493_433:=n15_
                 have NB448_493:=n16_
                 have NB493_448:=n17_
                 have NB456_493:=n18_
                 have NB493_456:=n19_
                 have NB462_493:=n20_
                 have NB493_462:=n21_
                 clear n0_ n1_ n2_ n3_ n4_ n5_ n6_ n7_ n8_ n9_ n10_ n11_ n12_ n13_ n14_ n15_ n16_ n17_ n18_ n19_ n20_ n21_
                 clear hb hbox hg
                 refine hK.out _ _ ⟨(blk_cell BK433.out 0).trans rfl,(blk_cell BK433.out 1).trans rfl⟩ (fun hHeld => ?_)
                 clear hK K
                 refine norm_ (a':=?_) ?_ ?_
                 rotate_left
                 ·show Act.put _ (some 17) _ = _
                  simp only [Act.put,List.setIfInBounds_toArray,List.set_cons_zero,List.set_cons_succ,i64_w,i32_w]
                  rfl
                 exact norm_ (by simp only [putAll,Act.put,List.setIfInBounds_toArray,List.set_cons_zero,List.set_cons_succ]) (hCont (.slice Ao135 t481.length co135,.slice Ao136 t485.length co136,v490,gb493) _ ⟨hHeld,(kup HO483.out),(kup (Kd.R_mono HO487.out (fun _ hk => ⟨hk.2,⟨hk.1.1.1.2,⟨hk.1.1.2,hk.1.2⟩⟩⟩))),(kup (Kd.R_mono HO491.out (fun _ hk => ⟨hk.2,⟨hk.1.1.1.2,⟨hk.1.1.2,hk.1.2⟩⟩⟩))),(kup (Kd.R_mono HO_449001.out (fun _ hk => ⟨hk.1.2,⟨hk.2,⟨hk.1.1.1,hk.1.1.2⟩⟩⟩))),(kup (Kd.R_mono HO_457001.out (fun _ hk => ⟨hk.1.2,⟨hk.2,⟨hk.1.1.1,hk.1.1.2⟩⟩⟩))),(kup (Kd.R_mono HO_463001.out (fun _ hk => ⟨hk.1.2,⟨hk.2,⟨hk.1.1.1,hk.1.1.2⟩⟩⟩))),(bup BK433.out),(bup BK448.out),(bup BK456.out),(bup BK462.out),(bup BK493.out),GW493.out,GE493.out,NB433_493.out,NB493_433.out,NB448_493.out,NB493_448.out,NB456_493.out,NB493_456.out,NB462_493.out,NB493_462.out,(lup HB.out)⟩)
                ·skip
                 refine box_step ?hg (N:=17) ?hd (cs:=#[.int .i64 0,.slice none 0 0]) (t:=40) ?hr ?_;(case hd => rfl);(case hg => rfl);(case hr => first|(go_simp;done)|(go_simp;rfl))
                 intro gb493 hg w135 hbox hb
                 have n0_:=am (Kd.R_below (kup HO_449001.out) hb)
                 have n1_:=am (Kd.R_below (kup HO_457001.out) hb)
                 have n2_:=am (Kd.R_below (kup HO_463001.out) hb)
                 have n3_:=am (Kd.R_below (kup HO483.out) hb)
                 have n4_:=am (Kd.R_below (kup HO487.out) hb)
                 have n5_:=am (blk_below (bup BK433.out) hb)
                 have n6_:=am (blk_below (bup BK448.out) hb)
                 have n7_:=am (blk_below (bup BK456.out) hb)
                 have n8_:=am (blk_below (bup BK462.out) hb)
                 have n9_:=am (below_step (lup HB.out) hb)
                 have n10_:=am (hbox)
                 have n11_:=am ((by rw [hg];exact (below_size (lup HB.out)) : w.heap.size ≤ gb493))
                 have n12_:=am ((by rw [hg];exact (below_size (lup HB.out)) : w.heap.size ≤ gb493))
                 have n13_:=am ((by rw [hg];exact Nat.ne_of_lt (blk_lt (bup BK433.out)) : gb433≠gb493))
                 have n14_:=am ((by rw [hg];exact Nat.ne_of_gt (blk_lt (bup BK433.out)) : gb493≠gb433))
                 have n15_:=am ((by rw [hg];exact Nat.ne_of_lt (blk_lt (bup BK448.out)) : gb448≠gb493))
                 have n16_:=am ((by rw [hg];exact Nat.ne_of_gt (blk_lt (bup BK448.out)) : gb493≠gb448))
                 have n17_:=am ((by rw [hg];exact Nat.ne_of_lt (blk_lt (bup BK456.out)) : gb456≠gb493))
                 have n18_:=am ((by rw [hg];exact Nat.ne_of_gt (blk_lt (bup BK456.out)) : gb493≠gb456))
                 have n19_:=am ((by rw [hg];exact Nat.ne_of_lt (blk_lt (bup BK462.out)) : gb462≠gb493))
                 have n20_:=am ((by rw [hg];exact Nat.ne_of_gt (blk_lt (bup BK462.out)) : gb493≠gb462))
                 clear HO_449001
                 clear HO_457001
                 clear HO_463001
                 clear HO483
                 clear HO487
                 clear BK433
                 clear BK448
                 clear BK456
                 clear BK462
                 clear HB
                 have HO_449001:=n0_
                 have HO_457001:=n1_
                 have HO_463001:=n2_
                 have HO483:=n3_
                 have HO487:=n4_
                 have BK433:=n5_
                 have BK448:=n6_
                 have BK456:=n7_
                 have BK462:=n8_
                 have HB:=n9_
                 have BK493:=n10_
                 have GW493:=n11_
                 have GE493:=n12_
                 have NB433_493:=n13_
                 have NB493_433:=n14_
                 have NB448_493:=n15_
                 have NB493_448:=n16_
                 have NB456_493:=n17_
                 have NB493_456:=n18_
                 have NB462_493:=n19_
                 have NB493_462:=n20_
                 clear n0_ n1_ n2_ n3_ n4_ n5_ n6_ n7_ n8_ n9_ n10_ n11_ n12_ n13_ n14_ n15_ n16_ n17_ n18_ n19_ n20_
                 clear hb hbox hg
                 obtain ⟨Ao136,co136,eo136⟩:=Kd.R_slice HO483.out
                 (first|subst eo136|(injection eo136 with f1_ f2_ f3_;have f4_:=f1_.symm;have f5_:=f3_.symm;clear f1_ f2_ f3_;subst f4_;subst f5_))
                 obtain ⟨Ao137,co137,eo137⟩:=Kd.R_slice HO487.out
                 (first|subst eo137|(injection eo137 with f1_ f2_ f3_;have f4_:=f1_.symm;have f5_:=f3_.symm;clear f1_ f2_ f3_;subst f4_;subst f5_))
                 refine hK.out _ _ ⟨(blk_cell BK433.out 0).trans rfl,(blk_cell BK433.out 1).trans rfl⟩ (fun hHeld => ?_)
                 clear hK K
                 refine norm_ (a':=?_) ?_ ?_
                 rotate_left
                 ·show Act.put _ (some 17) _ = _
                  simp only [Act.put,List.setIfInBounds_toArray,List.set_cons_zero,List.set_cons_succ,i64_w,i32_w]
                  rfl
                 refine one_ (i:=5) (N:=some 104) #[true,true,true,true,true,true,false,false,false,true,false,false] rfl rfl (one_of HT_.out (by kernel_rfl)) (by decide) (fun K hK => ?_)
                 refine goes_ Tryd.func34 (by kernel_rfl) rfl #[.slice Ao136 t481.length co136,.agg #[.int .i64 t484,.slice Ao137 t485.length co137],.int .i64 a2] (by rfl) rfl rfl (by (try simp only [List.map_toArray,List.map_cons,List.map_nil]);first|done|rfl|(simp only [List.length_drop,List.length_take];rfl)) ?_
                 with_reducible refine (impl_YoungObject.calls kj76 _ _ t481 t484 _ _ t485 a2 t488 t489 t492 _ ?side1 ?side2 ?side3 ?side4 A123.out).mono ?_
                 (case side1 => repeat (first|exact (Kd.R_reads' HO483.out).2.2|(with_reducible first|refine Kd.C_alloc ?_ _|refine Kd.C_drewN ?_ _|refine Kd.C_drew ?_)))
                 (case side2 => exact (Kd.R_reads' HO483.out).2.1)
                 (case side3 => repeat (first|exact (Kd.R_reads' HO487.out).2.2|(with_reducible first|refine Kd.C_alloc ?_ _|refine Kd.C_drewN ?_ _|refine Kd.C_drew ?_)))
                 (case side4 => exact (Kd.R_reads' HO487.out).2.1)
                 rintro e w138 ⟨v490,rfl,ho0,hb⟩
                 refine ⟨_,rfl,?_⟩
                 have n0_:=am (Kd.R_elder' (kup HO_449001.out) (Kd.R_base ho0) hb)
                 have n1_:=am (Kd.R_elder' (kup HO_457001.out) (Kd.R_base ho0) hb)
                 have n2_:=am (Kd.R_elder' (kup HO_463001.out) (Kd.R_base ho0) hb)
                 have n3_:=am (Kd.R_below (kup HO483.out) hb)
                 have n4_:=am (Kd.R_elder' (kup HO487.out) (Kd.R_base ho0) hb)
                 have n5_:=am (Kd.R_lower (Kd.R_new' (Kd.R_new' (Kd.R_new' (Kd.R_new' ho0 (Kd.R_lt (kup HO_449001.out))) (Kd.R_lt (kup HO_457001.out))) (Kd.R_lt (kup HO_463001.out))) (Kd.R_lt (kup HO487.out))) (below_size (lup HB.out)))
                 have n6_:=am (blk_below (bup BK433.out) hb)
                 have n7_:=am (blk_below (bup BK448.out) hb)
                 have n8_:=am (blk_below (bup BK456.out) hb)
                 have n9_:=am (blk_below (bup BK462.out) hb)
                 have n10_:=am (blk_below (bup BK493.out) hb)
                 have n11_:=am (below_step (lup HB.out) hb)
                 clear HO_449001
                 clear HO_457001
                 clear HO_463001
                 clear HO483
                 clear HO487
                 clear BK433
                 clear BK448
                 clear BK456
                 clear BK462
                 clear BK493
                 clear HB
                 have HO_449001:=n0_
                 have HO_457001:=n1_
                 have HO_463001:=n2_
                 have HO483:=n3_
                 have HO487:=n4_
                 have HO491:=n5_
                 have BK433:=n6_
                 have BK448:=n7_
                 have BK456:=n8_
                 have BK462:=n9_
                 have BK493:=n10_
                 have HB:=n11_
                 clear n0_ n1_ n2_ n3_ n4_ n5_ n6_ n7_ n8_ n9_ n10_ n11_
                 (try clear hb)
                 (try clear hb2)
                 (try clear hk)
                 (try clear hi)
                 (try clear ho0)
                 refine hK.out _ _ ⟨(blk_cell BK433.out 0).trans rfl,(blk_cell BK433.out 1).trans rfl⟩ (fun hHeld => ?_)
                 clear hK K
                 refine norm_ (a':=?_) ?_ ?_
                 rotate_left
                 ·show Act.put _ (some 104) _ = _
                  simp only [Act.put,List.setIfInBounds_toArray,List.set_cons_zero,List.set_cons_succ,i64_w,i32_w]
                  rfl
                 refine pure_ (i:=6) (N:=some 98) (v:=?_) (a':=?_) #[true,true,true,true,true,true,true,false,false,true,false,false] rfl rfl (any_of HT_.out (by kernel_rfl)) (fun _ _ _ h => h) (Or.inl ⟨by rfl,?_⟩) ?_ ?_
                 rotate_left
                 ·intro w'
                  go_simp
                  with_reducible rfl
                 rotate_left
                 ·simp only [Act.put,List.setIfInBounds_toArray,List.set_cons_zero,List.set_cons_succ,i64_w,i32_w]
                  rfl
                 refine pure_ (i:=7) (N:=some 105) (v:=?_) (a':=?_) #[true,true,true,true,true,true,true,true,false,true,false,false] rfl rfl (any_of HT_.out (by kernel_rfl)) (fun _ _ _ h => h) (Or.inl ⟨by rfl,?_⟩) ?_ ?_
                 rotate_left
                 ·intro w'
                  go_simp
                  with_reducible rfl
                 rotate_left
                 ·simp only [Act.put,List.setIfInBounds_toArray,List.set_cons_zero,List.set_cons_succ,i64_w,i32_w]
                  rfl
                 refine pure_ (i:=8) (N:=some 106) (v:=?_) (a':=?_) #[true,true,true,true,true,true,true,true,true,true,false,false] rfl rfl (any_of HT_.out (by kernel_rfl)) (fun _ _ _ h => h) (Or.inl ⟨by rfl,?_⟩) ?_ ?_
                 rotate_left
                 ·intro w'
                  go_simp
                  with_reducible rfl
                 rotate_left
                 ·simp only [Act.put,List.setIfInBounds_toArray,List.set_cons_zero,List.set_cons_succ,i64_w,i32_w]
                  rfl
                 exact norm_ (by simp only [putAll,Act.put,List.setIfInBounds_toArray,List.set_cons_zero,List.set_cons_succ]) (hCont (.slice Ao136 t481.length co136,.slice Ao137 t485.length co137,v490,gb493) _ ⟨hHeld,(kup HO483.out),(kup (Kd.R_mono HO487.out (fun _ hk => ⟨hk.2,⟨hk.1.1.1.2,⟨hk.1.1.2,hk.1.2⟩⟩⟩))),(kup (Kd.R_mono HO491.out (fun _ hk => ⟨hk.2,⟨hk.1.1.1.2,⟨hk.1.1.2,hk.1.2⟩⟩⟩))),(kup (Kd.R_mono HO_449001.out (fun _ hk => ⟨hk.1.2,⟨hk.2,⟨hk.1.1.1,hk.1.1.2⟩⟩⟩))),(kup (Kd.R_mono HO_457001.out (fun _ hk => ⟨hk.1.2,⟨hk.2,⟨hk.1.1.1,hk.1.1.2⟩⟩⟩))),(kup (Kd.R_mono HO_463001.out (fun _ hk => ⟨hk.1.2,⟨hk.2,⟨hk.1.1.1,hk.1.1.2⟩⟩⟩))),(bup BK433.out),(bup BK448.out),(bup BK456.out),(bup BK462.out),(bup BK493.out),GW493.out,GE493.out,NB433_493.out,NB493_433.out,NB448_493.out,NB493_448.out,NB456_493.out,NB493_456.out,NB462_493.out,NB493_462.out,(lup HB.out)⟩)
               ·skip
                refine box_step ?hg (N:=17) ?hd (cs:=#[.int .i64 0,.slice none 0 0]) (t:=40) ?hr ?_;(case hd => rfl);(case hg => rfl);(case hr => first|(go_simp;done)|(go_simp;rfl))
                intro gb493 hg w134 hbox hb
                have n0_:=am (Kd.R_below (kup HO_449001.out) hb)
                have n1_:=am (Kd.R_below (kup HO_457001.out) hb)
                have n2_:=am (Kd.R_below (kup HO_463001.out) hb)
                have n3_:=am (Kd.R_below (kup HO483.out) hb)
                have n4_:=am (blk_below (bup BK433.out) hb)
                have n5_:=am (blk_below (bup BK448.out) hb)
                have n6_:=am (blk_below (bup BK456.out) hb)
                have n7_:=am (blk_below (bup BK462.out) hb)
                have n8_:=am (below_step (lup HB.out) hb)
                have n9_:=am (hbox)
                have n10_:=am ((by rw [hg];exact (below_size (lup HB.out)) : w.heap.size ≤ gb493))
                have n11_:=am ((by rw [hg];exact (below_size (lup HB.out)) : w.heap.size ≤ gb493))
                have n12_:=am ((by rw [hg];exact Nat.ne_of_lt (blk_lt (bup BK433.out)) : gb433≠gb493))
                have n13_:=am ((by rw [hg];exact Nat.ne_of_gt (blk_lt (bup BK433.out)) : gb493≠gb433))
                have n14_:=am ((by rw [hg];exact Nat.ne_of_lt (blk_lt (bup BK448.out)) : gb448≠gb493))
                have n15_:=am ((by rw [hg];exact Nat.ne_of_gt (blk_lt (bup BK448.out)) : gb493≠gb448))
                have n16_:=am ((by rw [hg];exact Nat.ne_of_lt (blk_lt (bup BK456.out)) : gb456≠gb493))
                have n17_:=am ((by rw [hg];exact Nat.ne_of_gt (blk_lt (bup BK456.out)) : gb493≠gb456))
                have n18_:=am ((by rw [hg];exact Nat.ne_of_lt (blk_lt (bup BK462.out)) : gb462≠gb493))
                have n19_:=am ((by rw [hg];exact Nat.ne_of_gt (blk_lt (bup BK462.out)) : gb493≠gb462))
                clear HO_449001
                clear HO_457001
                clear HO_463001
                clear HO483
                clear BK433
                clear BK448
                clear BK456
                clear BK462
                clear HB
                have HO_449001:=n0_
                have HO_457001:=n1_
                have HO_463001:=n2_
                have HO483:=n3_
                have BK433:=n4_
                have BK448:=n5_
                have BK456:=n6_
                have BK462:=n7_
                have HB:=n8_
                have BK493:=n9_
                have GW493:=n10_
                have GE493:=n11_
                have NB433_493:=n12_
                have NB493_433:=n13_
                have NB448_493:=n14_
                have NB493_448:=n15_
                have NB456_493:=n16_
                have NB493_456:=n17_
                have NB462_493:=n18_
                have NB493_462:=n19_
                clear n0_ n1_ n2_ n3_ n4_ n5_ n6_ n7_ n8_ n9_ n10_ n11_ n12_ n13_ n14_ n15_ n16_ n17_ n18_ n19_
                clear hb hbox hg
                refine hK.out _ _ ⟨(blk_cell BK433.out 0).trans rfl,(blk_cell BK433.out 1).trans rfl⟩ (fun hHeld => ?_)
                clear hK K
                refine norm_ (a':=?_) ?_ ?_
                rotate_left
                ·show Act.put _ (some 17) _ = _
                 simp only [Act.put,List.setIfInBounds_toArray,List.set_cons_zero,List.set_cons_succ,i64_w,i32_w]
                 rfl
                refine one_ (i:=3) (N:=some 102) #[true,true,true,true,true,false,false,false,false,true,false,false] rfl rfl (one_of HT_.out (by kernel_rfl)) (by decide) (fun K hK => ?_)
                refine goes_ Tryd.func20 (by kernel_rfl) rfl #[.agg #[.int .i64 a1_0,.slice A1_1 l1_1.length c1_1]] (by rfl) rfl rfl (by (try simp only [List.map_toArray,List.map_cons,List.map_nil]);first|done|rfl|(simp only [List.length_drop,List.length_take];rfl)) ?_
                with_reducible refine (laws_toNursery.calls kj76 a1_0 _ _ l1_1 t484 t485 _ ?side1 ?side2 A122.out).mono ?_
                (case side1 => repeat (first|exact (Kd.C_below HR1_1.out HB.out)|(with_reducible first|refine Kd.C_alloc ?_ _|refine Kd.C_drewN ?_ _|refine Kd.C_drew ?_)))
                (case side2 => exact HC1_1.out)
                rintro e w135 ⟨v486,rfl,ho0,hb⟩
                refine ⟨_,rfl,?_⟩
                have n0_:=am (Kd.R_elder' (kup HO_449001.out) (Kd.R_base ho0) hb)
                have n1_:=am (Kd.R_elder' (kup HO_457001.out) (Kd.R_base ho0) hb)
                have n2_:=am (Kd.R_elder' (kup HO_463001.out) (Kd.R_base ho0) hb)
                have n3_:=am (Kd.R_below (kup HO483.out) hb)
                have n4_:=am (Kd.R_lower (Kd.R_new' (Kd.R_new' (Kd.R_new' ho0 (Kd.R_lt (kup HO_449001.out))) (Kd.R_lt (kup HO_457001.out))) (Kd.R_lt (kup HO_463001.out))) (below_size (lup HB.out)))
                have n5_:=am (blk_below (bup BK433.out) hb)
                have n6_:=am (blk_below (bup BK448.out) hb)
                have n7_:=am (blk_below (bup BK456.out) hb)
                have n8_:=am (blk_below (bup BK462.out) hb)
                have n9_:=am (blk_below (bup BK493.out) hb)
                have n10_:=am (below_step (lup HB.out) hb)
                clear HO_449001
                clear HO_457001
                clear HO_463001
                clear HO483
                clear BK433
                clear BK448
                clear BK456
                clear BK462
                clear BK493
                clear HB
                have HO_449001:=n0_
                have HO_457001:=n1_
                have HO_463001:=n2_
                have HO483:=n3_
                have HO487:=n4_
                have BK433:=n5_
                have BK448:=n6_
                have BK456:=n7_
                have BK462:=n8_
                have BK493:=n9_
                have HB:=n10_
                clear n0_ n1_ n2_ n3_ n4_ n5_ n6_ n7_ n8_ n9_ n10_
                (try clear hb)
                (try clear hb2)
                (try clear hk)
                (try clear hi)
                (try clear ho0)
                obtain ⟨Ao136,co136,eo136⟩:=Kd.R_slice HO483.out
                (first|subst eo136|(injection eo136 with f1_ f2_ f3_;have f4_:=f1_.symm;have f5_:=f3_.symm;clear f1_ f2_ f3_;subst f4_;subst f5_))
                obtain ⟨Ao137,co137,eo137⟩:=Kd.R_slice HO487.out
                (first|subst eo137|(injection eo137 with f1_ f2_ f3_;have f4_:=f1_.symm;have f5_:=f3_.symm;clear f1_ f2_ f3_;subst f4_;subst f5_))
                refine hK.out _ _ ⟨(blk_cell BK433.out 0).trans rfl,(blk_cell BK433.out 1).trans rfl⟩ (fun hHeld => ?_)
                clear hK K
                refine norm_ (a':=?_) ?_ ?_
                rotate_left
                ·show Act.put _ (some 102) _ = _
                 simp only [Act.put,List.setIfInBounds_toArray,List.set_cons_zero,List.set_cons_succ,i64_w,i32_w]
                 rfl
                refine one_ (i:=5) (N:=some 104) #[true,true,true,true,true,true,false,false,false,true,false,false] rfl rfl (one_of HT_.out (by kernel_rfl)) (by decide) (fun K hK => ?_)
                refine goes_ Tryd.func34 (by kernel_rfl) rfl #[.slice Ao136 t481.length co136,.agg #[.int .i64 t484,.slice Ao137 t485.length co137],.int .i64 a2] (by rfl) rfl rfl (by (try simp only [List.map_toArray,List.map_cons,List.map_nil]);first|done|rfl|(simp only [List.length_drop,List.length_take];rfl)) ?_
                with_reducible refine (impl_YoungObject.calls kj76 _ _ t481 t484 _ _ t485 a2 t488 t489 t492 _ ?side1 ?side2 ?side3 ?side4 A123.out).mono ?_
                (case side1 => repeat (first|exact (Kd.R_reads' HO483.out).2.2|(with_reducible first|refine Kd.C_alloc ?_ _|refine Kd.C_drewN ?_ _|refine Kd.C_drew ?_)))
                (case side2 => exact (Kd.R_reads' HO483.out).2.1)
                (case side3 => repeat (first|exact (Kd.R_reads' HO487.out).2.2|(with_reducible first|refine Kd.C_alloc ?_ _|refine Kd.C_drewN ?_ _|refine Kd.C_drew ?_)))
                (case side4 => exact (Kd.R_reads' HO487.out).2.1)
                rintro e w138 ⟨v490,rfl,ho0,hb⟩
                refine ⟨_,rfl,?_⟩
                have n0_:=am (Kd.R_elder' (kup HO_449001.out) (Kd.R_base ho0) hb)
                have n1_:=am (Kd.R_elder' (kup HO_457001.out) (Kd.R_base ho0) hb)
                have n2_:=am (Kd.R_elder' (kup HO_463001.out) (Kd.R_base ho0) hb)
                have n3_:=am (Kd.R_below (kup HO483.out) hb)
                have n4_:=am (Kd.R_elder' (kup HO487.out) (Kd.R_base ho0) hb)
                have n5_:=am (Kd.R_lower (Kd.R_new' (Kd.R_new' (Kd.R_new' (Kd.R_new' ho0 (Kd.R_lt (kup HO_449001.out))) (Kd.R_lt (kup HO_457001.out))) (Kd.R_lt (kup HO_463001.out))) (Kd.R_lt (kup HO487.out))) (below_size (lup HB.out)))
                have n6_:=am (blk_below (bup BK433.out) hb)
                have n7_:=am (blk_below (bup BK448.out) hb)
                have n8_:=am (blk_below (bup BK456.out) hb)
                have n9_:=am (blk_below (bup BK462.out) hb)
                have n10_:=am (blk_below (bup BK493.out) hb)
                have n11_:=am (below_step (lup HB.out) hb)
                clear HO_449001
                clear HO_457001
                clear HO_463001
                clear HO483
                clear HO487
                clear BK433
                clear BK448
                clear BK456
                clear BK462
                clear BK493
                clear HB
                have HO_449001:=n0_
                have HO_457001:=n1_
                have HO_463001:=n2_
                have HO483:=n3_
                have HO487:=n4_
                have HO491:=n5_
                have BK433:=n6_
                have BK448:=n7_
                have BK456:=n8_
                have BK462:=n9_
                have BK493:=n10_
                have HB:=n11_
                clear n0_ n1_ n2_ n3_ n4_ n5_ n6_ n7_ n8_ n9_ n10_ n11_
                (try clear hb)
                (try clear hb2)
                (try clear hk)
                (try clear hi)
                (try clear ho0)
                refine hK.out _ _ ⟨(blk_cell BK433.out 0).trans rfl,(blk_cell BK433.out 1).trans rfl⟩ (fun hHeld => ?_)
                clear hK K
                refine norm_ (a':=?_) ?_ ?_
                rotate_left
                ·show Act.put _ (some 104) _ = _
                 simp only [Act.put,List.setIfInBounds_toArray,List.set_cons_zero,List.set_cons_succ,i64_w,i32_w]
                 rfl
                refine pure_ (i:=6) (N:=some 98) (v:=?_) (a':=?_) #[true,true,true,true,true,true,true,false,false,true,false,false] rfl rfl (any_of HT_.out (by kernel_rfl)) (fun _ _ _ h => h) (Or.inl ⟨by rfl,?_⟩) ?_ ?_
                rotate_left
                ·intro w'
                 go_simp
                 with_reducible rfl
                rotate_left
                ·simp only [Act.put,List.setIfInBounds_toArray,List.set_cons_zero,List.set_cons_succ,i64_w,i32_w]
                 rfl
                refine pure_ (i:=7) (N:=some 105) (v:=?_) (a':=?_) #[true,true,true,true,true,true,true,true,false,true,false,false] rfl rfl (any_of HT_.out (by kernel_rfl)) (fun _ _ _ h => h) (Or.inl ⟨by rfl,?_⟩) ?_ ?_
                rotate_left
                ·intro w'
                 go_simp
                 with_reducible rfl
                rotate_left
                ·simp only [Act.put,List.setIfInBounds_toArray,List.set_cons_zero,List.set_cons_succ,i64_w,i32_w]
                 rfl
                refine pure_ (i:=8) (N:=some 106) (v:=?_) (a':=?_) #[true,true,true,true,true,true,true,true,true,true,false,false] rfl rfl (any_of HT_.out (by kernel_rfl)) (fun _ _ _ h => h) (Or.inl ⟨by rfl,?_⟩) ?_ ?_
                rotate_left
                ·intro w'
                 go_simp
                 with_reducible rfl
                rotate_left
                ·simp only [Act.put,List.setIfInBounds_toArray,List.set_cons_zero,List.set_cons_succ,i64_w,i32_w]
                 rfl
                exact norm_ (by simp only [putAll,Act.put,List.setIfInBounds_toArray,List.set_cons_zero,List.set_cons_succ]) (hCont (.slice Ao136 t481.length co136,.slice Ao137 t485.length co137,v490,gb493) _ ⟨hHeld,(kup HO483.out),(kup (Kd.R_mono HO487.out (fun _ hk => ⟨hk.2,⟨hk.1.1.1.2,⟨hk.1.1.2,hk.1.2⟩⟩⟩))),(kup (Kd.R_mono HO491.out (fun _ hk => ⟨hk.2,⟨hk.1.1.1.2,⟨hk.1.1.2,hk.1.2⟩⟩⟩))),(kup (Kd.R_mono HO_449001.out (fun _ hk => ⟨hk.1.2,⟨hk.2,⟨hk.1.1.1,hk.1.1.2⟩⟩⟩))),(kup (Kd.R_mono HO_457001.out (fun _ hk => ⟨hk.1.2,⟨hk.2,⟨hk.1.1.1,hk.1.1.2⟩⟩⟩))),(kup (Kd.R_mono HO_463001.out (fun _ hk => ⟨hk.1.2,⟨hk.2,⟨hk.1.1.1,hk.1.1.2⟩⟩⟩))),(bup BK433.out),(bup BK448.out),(bup BK456.out),(bup BK462.out),(bup BK493.out),GW493.out,GE493.out,NB433_493.out,NB493_433.out,NB448_493.out,NB493_448.out,NB456_493.out,NB493_456.out,NB462_493.out,NB493_462.out,(lup HB.out)⟩)
              ·skip
               refine box_step ?hg (N:=17) ?hd (cs:=#[.int .i64 0,.slice none 0 0]) (t:=40) ?hr ?_;(case hd => rfl);(case hg => rfl);(case hr => first|(go_simp;done)|(go_simp;rfl))
               intro gb493 hg w133 hbox hb
               have n0_:=am (Kd.R_below (kup HO_449001.out) hb)
               have n1_:=am (Kd.R_below (kup HO_457001.out) hb)
               have n2_:=am (Kd.R_below (kup HO_463001.out) hb)
               have n3_:=am (blk_below (bup BK433.out) hb)
               have n4_:=am (blk_below (bup BK448.out) hb)
               have n5_:=am (blk_below (bup BK456.out) hb)
               have n6_:=am (blk_below (bup BK462.out) hb)
               have n7_:=am (below_step (lup HB.out) hb)
               have n8_:=am (hbox)
               have n9_:=am ((by rw [hg];exact (below_size (lup HB.out)) : w.heap.size ≤ gb493))
               have n10_:=am ((by rw [hg];exact (below_size (lup HB.out)) : w.heap.size ≤ gb493))
               have n11_:=am ((by rw [hg];exact Nat.ne_of_lt (blk_lt (bup BK433.out)) : gb433≠gb493))
               have n12_:=am ((by rw [hg];exact Nat.ne_of_gt (blk_lt (bup BK433.out)) : gb493≠gb433))
               have n13_:=am ((by rw [hg];exact Nat.ne_of_lt (blk_lt (bup BK448.out)) : gb448≠gb493))
               have n14_:=am ((by rw [hg];exact Nat.ne_of_gt (blk_lt (bup BK448.out)) : gb493≠gb448))
               have n15_:=am ((by rw [hg];exact Nat.ne_of_lt (blk_lt (bup BK456.out)) : gb456≠gb493))
               have n16_:=am ((by rw [hg];exact Nat.ne_of_gt (blk_lt (bup BK456.out)) : gb493≠gb456))
               have n17_:=am ((by rw [hg];exact Nat.ne_of_lt (blk_lt (bup BK462.out)) : gb462≠gb493))
               have n18_:=am ((by rw [hg];exact Nat.ne_of_gt (blk_lt (bup BK462.out)) : gb493≠gb462))
               clear HO_449001
               clear HO_457001
               clear HO_463001
               clear BK433
               clear BK448
               clear BK456
               clear BK462
               clear HB
               have HO_449001:=n0_
               have HO_457001:=n1_
               have HO_463001:=n2_
               have BK433:=n3_
               have BK448:=n4_
               have BK456:=n5_
               have BK462:=n6_
               have HB:=n7_
               have BK493:=n8_
               have GW493:=n9_
               have GE493:=n10_
               have NB433_493:=n11_
               have NB493_433:=n12_
               have NB448_493:=n13_
               have NB493_448:=n14_
               have NB456_493:=n15_
               have NB493_456:=n16_
               have NB462_493:=n17_
               have NB493_462:=n18_
               clear n0_ n1_ n2_ n3_ n4_ n5_ n6_ n7_ n8_ n9_ n10_ n11_ n12_ n13_ n14_ n15_ n16_ n17_ n18_
               clear hb hbox hg
               refine hK.out _ _ ⟨(blk_cell BK433.out 0).trans rfl,(blk_cell BK433.out 1).trans rfl⟩ (fun hHeld => ?_)
               clear hK K
               refine norm_ (a':=?_) ?_ ?_
               rotate_left
               ·show Act.put _ (some 17) _ = _
                simp only [Act.put,List.setIfInBounds_toArray,List.set_cons_zero,List.set_cons_succ,i64_w,i32_w]
                rfl
               refine one_ (i:=1) (N:=some 100) #[true,true,true,false,true,false,false,false,false,true,false,false] rfl rfl (one_of HT_.out (by kernel_rfl)) (by decide) (fun K hK => ?_)
               refine goes_ Tryd.func19 (by kernel_rfl) rfl #[.slice A0 l0.length c0] (by rfl) rfl rfl (by (try simp only [List.map_toArray,List.map_cons,List.map_nil]);first|done|rfl|(simp only [List.length_drop,List.length_take];rfl)) ?_
               with_reducible refine (laws_toStringS.calls kj76 _ _ l0 t481 _ ?side1 ?side2 A121.out).mono ?_
               (case side1 => repeat (first|exact (Kd.C_below HR0.out HB.out)|(with_reducible first|refine Kd.C_alloc ?_ _|refine Kd.C_drewN ?_ _|refine Kd.C_drew ?_)))
               (case side2 => exact HC0.out)
               rintro e w134 ⟨v482,rfl,ho0,hb⟩
               refine ⟨_,rfl,?_⟩
               have n0_:=am (Kd.R_below (kup HO_449001.out) hb)
               have n1_:=am (Kd.R_below (kup HO_457001.out) hb)
               have n2_:=am (Kd.R_below (kup HO_463001.out) hb)
               have n3_:=am (Kd.R_lower ho0 (below_size (lup HB.out)))
               have n4_:=am (blk_below (bup BK433.out) hb)
               have n5_:=am (blk_below (bup BK448.out) hb)
               have n6_:=am (blk_below (bup BK456.out) hb)
               have n7_:=am (blk_below (bup BK462.out) hb)
               have n8_:=am (blk_below (bup BK493.out) hb)
               have n9_:=am (below_step (lup HB.out) hb)
               clear HO_449001
               clear HO_457001
               clear HO_463001
               clear BK433
               clear BK448
               clear BK456
               clear BK462
               clear BK493
               clear HB
               have HO_449001:=n0_
               have HO_457001:=n1_
               have HO_463001:=n2_
               have HO483:=n3_
               have BK433:=n4_
               have BK448:=n5_
               have BK456:=n6_
               have BK462:=n7_
               have BK493:=n8_
               have HB:=n9_
               clear n0_ n1_ n2_ n3_ n4_ n5_ n6_ n7_ n8_ n9_
               (try clear hb)
               (try clear hb2)
               (try clear hk)
               (try clear hi)
               (try clear ho0)
               refine hK.out _ _ ⟨(blk_cell BK433.out 0).trans rfl,(blk_cell BK433.out 1).trans rfl⟩ (fun hHeld => ?_)
               clear hK K
               refine norm_ (a':=?_) ?_ ?_
               rotate_left
               ·show Act.put _ (some 100) _ = _
                simp only [Act.put,List.setIfInBounds_toArray,List.set_cons_zero,List.set_cons_succ,i64_w,i32_w]
                rfl
               refine one_ (i:=3) (N:=some 102) #[true,true,true,true,true,false,false,false,false,true,false,false] rfl rfl (one_of HT_.out (by kernel_rfl)) (by decide) (fun K hK => ?_)
               refine goes_ Tryd.func20 (by kernel_rfl) rfl #[.agg #[.int .i64 a1_0,.slice A1_1 l1_1.length c1_1]] (by rfl) rfl rfl (by (try simp only [List.map_toArray,List.map_cons,List.map_nil]);first|done|rfl|(simp only [List.length_drop,List.length_take];rfl)) ?_
               with_reducible refine (laws_toNursery.calls kj76 a1_0 _ _ l1_1 t484 t485 _ ?side1 ?side2 A122.out).mono ?_
               (case side1 => repeat (first|exact (Kd.C_below HR1_1.out HB.out)|(with_reducible first|refine Kd.C_alloc ?_ _|refine Kd.C_drewN ?_ _|refine Kd.C_drew ?_)))
               (case side2 => exact HC1_1.out)
               rintro e w135 ⟨v486,rfl,ho0,hb⟩
               refine ⟨_,rfl,?_⟩
               have n0_:=am (Kd.R_elder' (kup HO_449001.out) (Kd.R_base ho0) hb)
               have n1_:=am (Kd.R_elder' (kup HO_457001.out) (Kd.R_base ho0) hb)
               have n2_:=am (Kd.R_elder' (kup HO_463001.out) (Kd.R_base ho0) hb)
               have n3_:=am (Kd.R_below (kup HO483.out) hb)
               have n4_:=am (Kd.R_lower (Kd.R_new' (Kd.R_new' (Kd.R_new' ho0 (Kd.R_lt (kup HO_449001.out))) (Kd.R_lt (kup HO_457001.out))) (Kd.R_lt (kup HO_463001.out))) (below_size (lup HB.out)))
               have n5_:=am (blk_below (bup BK433.out) hb)
               have n6_:=am (blk_below (bup BK448.out) hb)
               have n7_:=am (blk_below (bup BK456.out) hb)
               have n8_:=am (blk_below (bup BK462.out) hb)
               have n9_:=am (blk_below (bup BK493.out) hb)
               have n10_:=am (below_step (lup HB.out) hb)
               clear HO_449001
               clear HO_457001
               clear HO_463001
               clear HO483
               clear BK433
               clear BK448
               clear BK456
               clear BK462
               clear BK493
               clear HB
               have HO_449001:=n0_
               have HO_457001:=n1_
               have HO_463001:=n2_
               have HO483:=n3_
               have HO487:=n4_
               have BK433:=n5_
               have BK448:=n6_
               have BK456:=n7_
               have BK462:=n8_
               have BK493:=n9_
               have HB:=n10_
               clear n0_ n1_ n2_ n3_ n4_ n5_ n6_ n7_ n8_ n9_ n10_
               (try clear hb)
               (try clear hb2)
               (try clear hk)
               (try clear hi)
               (try clear ho0)
               obtain ⟨Ao136,co136,eo136⟩:=Kd.R_slice HO483.out
               (first|subst eo136|(injection eo136 with f1_ f2_ f3_;have f4_:=f1_.symm;have f5_:=f3_.symm;clear f1_ f2_ f3_;subst f4_;subst f5_))
               obtain ⟨Ao137,co137,eo137⟩:=Kd.R_slice HO487.out
               (first|subst eo137|(injection eo137 with f1_ f2_ f3_;have f4_:=f1_.symm;have f5_:=f3_.symm;clear f1_ f2_ f3_;subst f4_;subst f5_))
               refine hK.out _ _ ⟨(blk_cell BK433.out 0).trans rfl,(blk_cell BK433.out 1).trans rfl⟩ (fun hHeld => ?_)
               clear hK K
               refine norm_ (a':=?_) ?_ ?_
               rotate_left
               ·show Act.put _ (some 102) _ = _
                simp only [Act.put,List.setIfInBounds_toArray,List.set_cons_zero,List.set_cons_succ,i64_w,i32_w]
                rfl
               refine one_ (i:=5) (N:=some 104) #[true,true,true,true,true,true,false,false,false,true,false,false] rfl rfl (one_of HT_.out (by kernel_rfl)) (by decide) (fun K hK => ?_)
               refine goes_ Tryd.func34 (by kernel_rfl) rfl #[.slice Ao136 t481.length co136,.agg #[.int .i64 t484,.slice Ao137 t485.length co137],.int .i64 a2] (by rfl) rfl rfl (by (try simp only [List.map_toArray,List.map_cons,List.map_nil]);first|done|rfl|(simp only [List.length_drop,List.length_take];rfl)) ?_
               with_reducible refine (impl_YoungObject.calls kj76 _ _ t481 t484 _ _ t485 a2 t488 t489 t492 _ ?side1 ?side2 ?side3 ?side4 A123.out).mono ?_
               (case side1 => repeat (first|exact (Kd.R_reads' HO483.out).2.2|(with_reducible first|refine Kd.C_alloc ?_ _|refine Kd.C_drewN ?_ _|refine Kd.C_drew ?_)))
               (case side2 => exact (Kd.R_reads' HO483.out).2.1)
               (case side3 => repeat (first|exact (Kd.R_reads' HO487.out).2.2|(with_reducible first|refine Kd.C_alloc ?_ _|refine Kd.C_drewN ?_ _|refine Kd.C_drew ?_)))
               (case side4 => exact (Kd.R_reads' HO487.out).2.1)
               rintro e w138 ⟨v490,rfl,ho0,hb⟩
               refine ⟨_,rfl,?_⟩
               have n0_:=am (Kd.R_elder' (kup HO_449001.out) (Kd.R_base ho0) hb)
               have n1_:=am (Kd.R_elder' (kup HO_457001.out) (Kd.R_base ho0) hb)
               have n2_:=am (Kd.R_elder' (kup HO_463001.out) (Kd.R_base ho0) hb)
               have n3_:=am (Kd.R_below (kup HO483.out) hb)
               have n4_:=am (Kd.R_elder' (kup HO487.out) (Kd.R_base ho0) hb)
               have n5_:=am (Kd.R_lower (Kd.R_new' (Kd.R_new' (Kd.R_new' (Kd.R_new' ho0 (Kd.R_lt (kup HO_449001.out))) (Kd.R_lt (kup HO_457001.out))) (Kd.R_lt (kup HO_463001.out))) (Kd.R_lt (kup HO487.out))) (below_size (lup HB.out)))
               have n6_:=am (blk_below (bup BK433.out) hb)
               have n7_:=am (blk_below (bup BK448.out) hb)
               have n8_:=am (blk_below (bup BK456.out) hb)
               have n9_:=am (blk_below (bup BK462.out) hb)
               have n10_:=am (blk_below (bup BK493.out) hb)
               have n11_:=am (below_step (lup HB.out) hb)
               clear HO_449001
               clear HO_457001
               clear HO_463001
               clear HO483
               clear HO487
               clear BK433
               clear BK448
               clear BK456
               clear BK462
               clear BK493
               clear HB
               have HO_449001:=n0_
               have HO_457001:=n1_
               have HO_463001:=n2_
               have HO483:=n3_
               have HO487:=n4_
               have HO491:=n5_
               have BK433:=n6_
               have BK448:=n7_
               have BK456:=n8_
               have BK462:=n9_
               have BK493:=n10_
               have HB:=n11_
               clear n0_ n1_ n2_ n3_ n4_ n5_ n6_ n7_ n8_ n9_ n10_ n11_
               (try clear hb)
               (try clear hb2)
               (try clear hk)
               (try clear hi)
               (try clear ho0)
               refine hK.out _ _ ⟨(blk_cell BK433.out 0).trans rfl,(blk_cell BK433.out 1).trans rfl⟩ (fun hHeld => ?_)
               clear hK K
               refine norm_ (a':=?_) ?_ ?_
               rotate_left
               ·show Act.put _ (some 104) _ = _
                simp only [Act.put,List.setIfInBounds_toArray,List.set_cons_zero,List.set_cons_succ,i64_w,i32_w]
                rfl
               refine pure_ (i:=6) (N:=some 98) (v:=?_) (a':=?_) #[true,true,true,true,true,true,true,false,false,true,false,false] rfl rfl (any_of HT_.out (by kernel_rfl)) (fun _ _ _ h => h) (Or.inl ⟨by rfl,?_⟩) ?_ ?_
               rotate_left
               ·intro w'
                go_simp
                with_reducible rfl
               rotate_left
               ·simp only [Act.put,List.setIfInBounds_toArray,List.set_cons_zero,List.set_cons_succ,i64_w,i32_w]
                rfl
               refine pure_ (i:=7) (N:=some 105) (v:=?_) (a':=?_) #[true,true,true,true,true,true,true,true,false,true,false,false] rfl rfl (any_of HT_.out (by kernel_rfl)) (fun _ _ _ h => h) (Or.inl ⟨by rfl,?_⟩) ?_ ?_
               rotate_left
               ·intro w'
                go_simp
                with_reducible rfl
               rotate_left
               ·simp only [Act.put,List.setIfInBounds_toArray,List.set_cons_zero,List.set_cons_succ,i64_w,i32_w]
                rfl
               refine pure_ (i:=8) (N:=some 106) (v:=?_) (a':=?_) #[true,true,true,true,true,true,true,true,true,true,false,false] rfl rfl (any_of HT_.out (by kernel_rfl)) (fun _ _ _ h => h) (Or.inl ⟨by rfl,?_⟩) ?_ ?_
               rotate_left
               ·intro w'
                go_simp
                with_reducible rfl
               rotate_left
               ·simp only [Act.put,List.setIfInBounds_toArray,List.set_cons_zero,List.set_cons_succ,i64_w,i32_w]
                rfl
               exact norm_ (by simp only [putAll,Act.put,List.setIfInBounds_toArray,List.set_cons_zero,List.set_cons_succ]) (hCont (.slice Ao136 t481.length co136,.slice Ao137 t485.length co137,v490,gb493) _ ⟨hHeld,(kup HO483.out),(kup (Kd.R_mono HO487.out (fun _ hk => ⟨hk.2,⟨hk.1.1.1.2,⟨hk.1.1.2,hk.1.2⟩⟩⟩))),(kup (Kd.R_mono HO491.out (fun _ hk => ⟨hk.2,⟨hk.1.1.1.2,⟨hk.1.1.2,hk.1.2⟩⟩⟩))),(kup (Kd.R_mono HO_449001.out (fun _ hk => ⟨hk.1.2,⟨hk.2,⟨hk.1.1.1,hk.1.1.2⟩⟩⟩))),(kup (Kd.R_mono HO_457001.out (fun _ hk => ⟨hk.1.2,⟨hk.2,⟨hk.1.1.1,hk.1.1.2⟩⟩⟩))),(kup (Kd.R_mono HO_463001.out (fun _ hk => ⟨hk.1.2,⟨hk.2,⟨hk.1.1.1,hk.1.1.2⟩⟩⟩))),(bup BK433.out),(bup BK448.out),(bup BK456.out),(bup BK462.out),(bup BK493.out),GW493.out,GE493.out,NB433_493.out,NB493_433.out,NB448_493.out,NB493_448.out,NB456_493.out,NB493_456.out,NB462_493.out,NB493_462.out,(lup HB.out)⟩)
             rintro ⟨v482,v486,v490,gb493⟩ w139 ⟨hS_,h0_,h1_,h2_,h3_,h4_,h5_,h6_,h7_,h8_,h9_,h10_,h11_,h12_,h13_,h14_,h15_,h16_,h17_,h18_,h19_,h20_,h21_⟩
             have n0_ : Aside0 (Kd.R Kd.string 9 w139 w.heap.size (fun _ => True) v482 t481):=⟨h0_⟩
             have n1_ : Aside0 (Kd.R (Kd.int .i64) 2 w139 w.heap.size (fun k_ => some k_≠(v490 : Value).ownBlock∧some k_≠(.slice Ao31 t444.length co31 : Value).ownBlock∧some k_≠(.slice Ao41 t476.length co41 : Value).ownBlock∧some k_≠(.slice Ao49 t458.length co49 : Value).ownBlock) v486 t485):=⟨h1_⟩
             have n2_ : Aside0 (Kd.R (Kd.int .i64) 2 w139 w.heap.size (fun k_ => some k_≠(v486 : Value).ownBlock∧some k_≠(.slice Ao31 t444.length co31 : Value).ownBlock∧some k_≠(.slice Ao41 t476.length co41 : Value).ownBlock∧some k_≠(.slice Ao49 t458.length co49 : Value).ownBlock) v490 t489):=⟨h2_⟩
             have n3_ : Aside0 (Kd.R (Kd.int .i64) 2 w139 w.heap.size (fun k_ => some k_≠(v486 : Value).ownBlock∧some k_≠(v490 : Value).ownBlock∧some k_≠(.slice Ao41 t476.length co41 : Value).ownBlock∧some k_≠(.slice Ao49 t458.length co49 : Value).ownBlock) (.slice Ao31 t444.length co31) t444):=⟨h3_⟩
             have n4_ : Aside0 (Kd.R (Kd.int .i64) 2 w139 w.heap.size (fun k_ => some k_≠(v486 : Value).ownBlock∧some k_≠(v490 : Value).ownBlock∧some k_≠(.slice Ao31 t444.length co31 : Value).ownBlock∧some k_≠(.slice Ao49 t458.length co49 : Value).ownBlock) (.slice Ao41 t476.length co41) t476):=⟨h4_⟩
             have n5_ : Aside0 (Kd.R (Kd.int .i64) 2 w139 w.heap.size (fun k_ => some k_≠(v486 : Value).ownBlock∧some k_≠(v490 : Value).ownBlock∧some k_≠(.slice Ao31 t444.length co31 : Value).ownBlock∧some k_≠(.slice Ao41 t476.length co41 : Value).ownBlock) (.slice Ao49 t458.length co49) t479):=⟨h5_⟩
             have n6_ : Aside0 (w139.heap[gb433]? = some (.cells #[.int .i64 a1_0,.slice A1_1 l1_1.length c1_1] 25 (0,0))):=⟨h6_⟩
             have n7_ : Aside0 (w139.heap[gb448]? = some (.cells #[.int .i64 t443,.slice Ao31 t444.length co31] 40 (0,0))):=⟨h7_⟩
             have n8_ : Aside0 (w139.heap[gb456]? = some (.cells #[.int .i64 t452,.slice Ao41 t476.length co41] 30 (0,0))):=⟨h8_⟩
             have n9_ : Aside0 (w139.heap[gb462]? = some (.cells #[.int .i64 t457,.slice Ao49 t458.length co49] 40 (0,0))):=⟨h9_⟩
             have n10_ : Aside0 (w139.heap[gb493]? = some (.cells #[.int .i64 0,.slice none 0 0] 40 (0,0))):=⟨h10_⟩
             have n11_ : Aside0 (w.heap.size ≤ gb493):=⟨h11_⟩
             have n12_ : Aside0 (w.heap.size ≤ gb493):=⟨h12_⟩
             have n13_ : Aside0 (gb433≠gb493):=⟨h13_⟩
             have n14_ : Aside0 (gb493≠gb433):=⟨h14_⟩
             have n15_ : Aside0 (gb448≠gb493):=⟨h15_⟩
             have n16_ : Aside0 (gb493≠gb448):=⟨h16_⟩
             have n17_ : Aside0 (gb456≠gb493):=⟨h17_⟩
             have n18_ : Aside0 (gb493≠gb456):=⟨h18_⟩
             have n19_ : Aside0 (gb462≠gb493):=⟨h19_⟩
             have n20_ : Aside0 (gb493≠gb462):=⟨h20_⟩
             have n21_ : Aside0 (Below w.heap.size w w139):=⟨h21_⟩
             clear HO_449001
             clear HO_457001
             clear HO_463001
             clear BK433
             clear BK448
             clear BK456
             clear BK462
             clear HB
             clear h0_ h1_ h2_ h3_ h4_ h5_ h6_ h7_ h8_ h9_ h10_ h11_ h12_ h13_ h14_ h15_ h16_ h17_ h18_ h19_ h20_ h21_
             have HO483:=n0_
             have HO487:=n1_
             have HO491:=n2_
             have HO_449001:=n3_
             have HO_457001:=n4_
             have HO_463001:=n5_
             have BK433:=n6_
             have BK448:=n7_
             have BK456:=n8_
             have BK462:=n9_
             have BK493:=n10_
             have GW493:=n11_
             have GE493:=n12_
             have NB433_493:=n13_
             have NB493_433:=n14_
             have NB448_493:=n15_
             have NB493_448:=n16_
             have NB456_493:=n17_
             have NB493_456:=n18_
             have NB462_493:=n19_
             have NB493_462:=n20_
             have HB:=n21_
             clear n0_ n1_ n2_ n3_ n4_ n5_ n6_ n7_ n8_ n9_ n10_ n11_ n12_ n13_ n14_ n15_ n16_ n17_ n18_ n19_ n20_ n21_
             have hHeld : w139.cell? ⟨gb433,0,none⟩ = some (.int .i64 a1_0)∧w139.cell? ⟨gb433,1,none⟩ = some (.slice A1_1 l1_1.length c1_1):=hS_
             obtain ⟨Ao141,co141,eo141⟩:=Kd.R_slice HO491.out
             (first|subst eo141|(injection eo141 with f1_ f2_ f3_;have f4_:=f1_.symm;have f5_:=f3_.symm;clear f1_ f2_ f3_;subst f4_;subst f5_))
             refine norm_ (a':=?_) ?_ ?_
             rotate_left
             ·simp only [putAll,Act.put,List.setIfInBounds_toArray,List.set_cons_zero,List.set_cons_succ]
              rfl
             refine one_ (i:=10) (N:=none) #[true,true,true,true,true,true,true,true,true,true,true,false] rfl rfl (one_of HT_.out (by kernel_rfl)) (by decide) (fun K hK => ?_)
             have hs140 : w139.cell? ⟨gb493,0,none⟩ = some (.int .i64 0):=(blk_cell BK493.out 0).trans rfl
             have hfs140:=blk_frozen BK493.out 0
             have hns140_0:=NB433_493.out
             have hns140_1:=NB448_493.out
             have hns140_2:=NB456_493.out
             have hns140_3:=NB462_493.out
             have hms140_0:=NB493_433.out
             have hms140_1:=NB493_448.out
             have hms140_2:=NB493_456.out
             have hms140_3:=NB493_462.out
             have hs142 : w139.cell? ⟨gb493,1,none⟩ = some (.slice none 0 0):=(blk_cell BK493.out 1).trans rfl
             have hfs142:=blk_frozen BK493.out 1
             have hns142_0:=NB433_493.out
             have hns142_1:=NB448_493.out
             have hns142_2:=NB456_493.out
             have hns142_3:=NB462_493.out
             have hms142_0:=NB493_433.out
             have hms142_1:=NB493_448.out
             have hms142_2:=NB493_456.out
             have hms142_3:=NB493_462.out
             refine skip_ (w1:=?_) (by rfl) rfl ?_ ?_
             rotate_left
             ·go_simp
              rfl
             refine hK.out _ _ ⟨((cell_far (p:=⟨gb493,_,none⟩) NB433_493.out _).trans (((cell_far (p:=⟨gb493,_,none⟩) NB433_493.out _).trans (hHeld.1)))),((cell_far (p:=⟨gb493,_,none⟩) NB433_493.out _).trans (((cell_far (p:=⟨gb493,_,none⟩) NB433_493.out _).trans (hHeld.2))))⟩ (fun hHeld => ?_)
             clear hK K
             refine pure_ (i:=11) (N:=some 18) (v:=?_) (a':=?_) #[true,true,true,true,true,true,true,true,true,true,true,true] rfl rfl (any_of HT_.out (by kernel_rfl)) (fun _ _ _ h => h) (Or.inl ⟨by rfl,?_⟩) ?_ ?_
             rotate_left
             ·intro w'
              go_simp
              with_reducible rfl
             rotate_left
             ·simp only [Act.put,List.setIfInBounds_toArray,List.set_cons_zero,List.set_cons_succ,i64_w,i32_w]
              rfl
             refine done_ (done_of HT_.out (by kernel_rfl)) ?_
             go_upto_region 32 with (fail)
             go_cut [115] (fun v115 wc => ∃ (kq : Nat) (x115_123 : Bool),v115 = .bool x115_123∧Aside0 (laws_FnExactYoungObject.j2 kq t478 x115_123 t457 t479 = some r)∧Aside0 (kq ≤ kj76)∧Aside0 (Kd.R (Kd.int .i64) 2 wc w.heap.size (fun k_ => some k_≠((.slice Ao41 t476.length co41) : Value).ownBlock∧some k_≠((.slice Ao49 t458.length co49) : Value).ownBlock∧some k_≠((.slice Ao141 t489.length co141) : Value).ownBlock) (.slice Ao31 t444.length co31) t444)∧Aside0 (Kd.R (Kd.int .i64) 2 wc w.heap.size (fun k_ => some k_≠((.slice Ao31 t444.length co31) : Value).ownBlock∧some k_≠((.slice Ao49 t458.length co49) : Value).ownBlock∧some k_≠((.slice Ao141 t489.length co141) : Value).ownBlock) (.slice Ao41 t476.length co41) t476)∧Aside0 (Kd.R (Kd.int .i64) 2 wc w.heap.size (fun k_ => some k_≠((.slice Ao31 t444.length co31) : Value).ownBlock∧some k_≠((.slice Ao41 t476.length co41) : Value).ownBlock∧some k_≠((.slice Ao141 t489.length co141) : Value).ownBlock) (.slice Ao49 t458.length co49) t479)∧Aside0 (Kd.R (Kd.int .i64) 2 wc w.heap.size (fun k_ => some k_≠((.slice Ao31 t444.length co31) : Value).ownBlock∧some k_≠((.slice Ao41 t476.length co41) : Value).ownBlock∧some k_≠((.slice Ao49 t458.length co49) : Value).ownBlock) (.slice Ao141 t489.length co141) t489)∧Aside0 (wc.heap[gb433]? = some (.cells #[.int .i64 a1_0,(.slice A1_1 l1_1.length c1_1)] 25 (0,0)))∧Aside0 (wc.heap[gb448]? = some (.cells #[.int .i64 t443,(.slice Ao31 t444.length co31)] 40 (0,0)))∧Aside0 (wc.heap[gb456]? = some (.cells #[.int .i64 t452,(.slice Ao41 t476.length co41)] 30 (0,0)))∧Aside0 (wc.heap[gb462]? = some (.cells #[.int .i64 t457,(.slice Ao49 t458.length co49)] 40 (0,0)))∧Aside0 (wc.heap[gb493]? = some (.cells #[.int .i64 t488,(.slice Ao141 t489.length co141)] 40 (0,0)))∧Aside0 (Below w.heap.size w wc))
             case first =>
              have H:=HC124.out
              clear HC124
              replace H:=Option.bind_eq_some_iff.mp H
              obtain ⟨t494,A1430,H⟩:=H
              replace H : (if t494 = true then (laws_FnExactYoungObject.j2 kj76 t478 (t492 != t447) t457 t479) else (laws_FnExactYoungObject.j2 kj76 t478 true t457 t479)) = some r:=H
              have A143:=am A1430
              clear A1430
              by_cases c144 : t494 = true
              ·subst c144
               have H1 : (laws_FnExactYoungObject.j2 kj76 t478 (t492 != t447) t457 t479) = some r:=by rw [if_pos rfl] at H;exact H
               clear H
               have H:=H1
               clear H1
               have H':=am H
               clear H
               have hnb145:=NB493_433.out
               have hnc145:=NB433_493.out
               have hnb146:=NB493_448.out
               have hnc146:=NB448_493.out
               have hnb147:=NB493_456.out
               have hnc147:=NB456_493.out
               have hnb148:=NB493_462.out
               have hnc148:=NB462_493.out
               have hcz149_0 : w139.cell? ⟨gb493,0,none⟩ = some (.int .i64 0):=(blk_cell BK493.out 0).trans rfl
               have hcz149_1 : w139.cell? ⟨gb493,1,none⟩ = some (.slice none 0 0):=(blk_cell BK493.out 1).trans rfl
               have hfz149_0:=blk_frozen BK493.out 0
               have hfz149_1:=blk_frozen BK493.out 1
               have hnb150:=NB448_433.out
               have hnc150:=NB433_448.out
               have hnb151:=NB448_456.out
               have hnc151:=NB456_448.out
               have hnb152:=NB448_462.out
               have hnc152:=NB462_448.out
               have hcz153_0 : w139.cell? ⟨gb448,0,none⟩ = some (.int .i64 t443):=(blk_cell BK448.out 0).trans rfl
               have hcz153_1 : w139.cell? ⟨gb448,1,none⟩ = some (.slice Ao31 t444.length co31):=(blk_cell BK448.out 1).trans rfl
               have hfz153_0:=blk_frozen BK448.out 0
               have hfz153_1:=blk_frozen BK448.out 1
               go_wp2_with (first|((with_reducible refine gate_callee (f:=35) rfl ?_);refine goesL_ (some 109) rfl rfl Tryd.func35 (by kernel_rfl) rfl #[.agg #[.int .i64 t488,.slice Ao141 t489.length co141],.agg #[.int .i64 t443,.slice Ao31 t444.length co31]] rfl (by (try simp only [List.map_toArray,List.map_cons,List.map_nil]);first|done|rfl|(simp only [List.length_drop,List.length_take];rfl)) ?_;(with_reducible refine (laws_eqObj.calls kj76 t488 _ _ t489 t443 _ _ t444 true _ ?side1 ?side2 ?side3 ?side4 A143.out).mono ?_);(case side1 => refine (Kd.R_reads' (e:=2) (base:=w.heap.size) (ok:=fun k_ => (some k_≠(v486 : Value).ownBlock∧(some k_≠(.slice Ao31 t444.length co31 : Value).ownBlock∧(some k_≠(.slice Ao41 t476.length co41 : Value).ownBlock∧some k_≠(.slice Ao49 t458.length co49 : Value).ownBlock)))) (n:=t489.length) (c:=co141) ?_).2.2;exact (by (with_reducible repeat (first|apply Kd.R_alloc|apply Kd.R_drewN|apply Kd.R_drew));exact (Kd.R_mono (Kd.R_far (p:=⟨gb493,1,none⟩) (Kd.R_far (p:=⟨gb493,0,none⟩) (Kd.R_types HO491.out BK493.out (by decide)) (fun _ hk => hk.2) (.int .i64 t488)) (fun _ hk => hk.2) (.slice Ao141 t489.length co141)) (fun _ h_ => h_.1))));(case side2 => exact (Kd.R_reads' HO491.out).2.1);(case side3 => refine (Kd.R_reads' (e:=2) (base:=w.heap.size) (ok:=fun k_ => (some k_≠(v486 : Value).ownBlock∧(some k_≠(.slice Ao141 t489.length co141 : Value).ownBlock∧(some k_≠(.slice Ao41 t476.length co41 : Value).ownBlock∧some k_≠(.slice Ao49 t458.length co49 : Value).ownBlock)))) (n:=t444.length) (c:=co31) ?_).2.2;exact (by (with_reducible repeat (first|apply Kd.R_alloc|apply Kd.R_drewN|apply Kd.R_drew));exact (Kd.R_mono (Kd.R_far (p:=⟨gb493,1,none⟩) (Kd.R_far (p:=⟨gb493,0,none⟩) (Kd.R_types HO_449001.out BK493.out (by decide)) (fun _ hk => hk.2) (.int .i64 t488)) (fun _ hk => hk.2) (.slice Ao141 t489.length co141)) (fun _ h_ => h_.1))));(case side4 => exact (Kd.R_reads' HO_449001.out).2.1);rintro e w154 ⟨rfl,hb⟩;refine ⟨_,rfl,?_⟩;have n0_:=am (Kd.R_below (by (with_reducible repeat (first|apply Kd.R_alloc|apply Kd.R_drewN|apply Kd.R_drew));exact (Kd.R_mono (Kd.R_far (p:=⟨gb493,1,none⟩) (Kd.R_far (p:=⟨gb493,0,none⟩) (Kd.R_types HO_449001.out BK493.out (by decide)) (fun _ hk => hk.2) (.int .i64 t488)) (fun _ hk => hk.2) (.slice Ao141 t489.length co141)) (fun _ h_ => h_.1))) hb);have n1_:=am (Kd.R_below (by (with_reducible repeat (first|apply Kd.R_alloc|apply Kd.R_drewN|apply Kd.R_drew));exact (Kd.R_mono (Kd.R_far (p:=⟨gb493,1,none⟩) (Kd.R_far (p:=⟨gb493,0,none⟩) (Kd.R_types HO_457001.out BK493.out (by decide)) (fun _ hk => hk.2) (.int .i64 t488)) (fun _ hk => hk.2) (.slice Ao141 t489.length co141)) (fun _ h_ => h_.1))) hb);have n2_:=am (Kd.R_below (by (with_reducible repeat (first|apply Kd.R_alloc|apply Kd.R_drewN|apply Kd.R_drew));exact (Kd.R_mono (Kd.R_far (p:=⟨gb493,1,none⟩) (Kd.R_far (p:=⟨gb493,0,none⟩) (Kd.R_types HO_463001.out BK493.out (by decide)) (fun _ hk => hk.2) (.int .i64 t488)) (fun _ hk => hk.2) (.slice Ao141 t489.length co141)) (fun _ h_ => h_.1))) hb);have n3_:=am (Kd.R_below (by (with_reducible repeat (first|apply Kd.R_alloc|apply Kd.R_drewN|apply Kd.R_drew));exact (Kd.R_mono (Kd.R_far (p:=⟨gb493,1,none⟩) (Kd.R_far (p:=⟨gb493,0,none⟩) (Kd.R_types HO483.out BK493.out (by decide)) (fun _ hk => hk.2) (.int .i64 t488)) (fun _ hk => hk.2) (.slice Ao141 t489.length co141)) (fun _ h_ => h_.1))) hb);have n4_:=am (Kd.R_below (by (with_reducible repeat (first|apply Kd.R_alloc|apply Kd.R_drewN|apply Kd.R_drew));exact (Kd.R_mono (Kd.R_far (p:=⟨gb493,1,none⟩) (Kd.R_far (p:=⟨gb493,0,none⟩) (Kd.R_types HO487.out BK493.out (by decide)) (fun _ hk => hk.2) (.int .i64 t488)) (fun _ hk => hk.2) (.slice Ao141 t489.length co141)) (fun _ h_ => h_.1))) hb);have n5_:=am (Kd.R_below (by (with_reducible repeat (first|apply Kd.R_alloc|apply Kd.R_drewN|apply Kd.R_drew));exact (Kd.R_mono (Kd.R_far (p:=⟨gb493,1,none⟩) (Kd.R_far (p:=⟨gb493,0,none⟩) (Kd.R_types HO491.out BK493.out (by decide)) (fun _ hk => hk.2) (.int .i64 t488)) (fun _ hk => hk.2) (.slice Ao141 t489.length co141)) (fun _ h_ => h_.1))) hb);have n6_:=am (blk_below (g:=gb433) (o:=.cells #[.int .i64 a1_0,.slice A1_1 l1_1.length c1_1] 25 (0,0)) (by (with_reducible repeat (first|refine blk_drewN ?_ _|refine blk_drew ?_|refine blk_alloc ?_ _));refine blk_far ?_ NB433_493.out _;(with_reducible repeat (first|refine blk_drewN ?_ _|refine blk_drew ?_|refine blk_alloc ?_ _));refine blk_far ?_ NB433_493.out _;(with_reducible repeat (first|refine blk_drewN ?_ _|refine blk_drew ?_|refine blk_alloc ?_ _));exact BK433.out) hb);have n7_:=am (blk_below (g:=gb448) (o:=.cells #[.int .i64 t443,.slice Ao31 t444.length co31] 40 (0,0)) (by (with_reducible repeat (first|refine blk_drewN ?_ _|refine blk_drew ?_|refine blk_alloc ?_ _));refine blk_far ?_ NB448_493.out _;(with_reducible repeat (first|refine blk_drewN ?_ _|refine blk_drew ?_|refine blk_alloc ?_ _));refine blk_far ?_ NB448_493.out _;(with_reducible repeat (first|refine blk_drewN ?_ _|refine blk_drew ?_|refine blk_alloc ?_ _));exact BK448.out) hb);have n8_:=am (blk_below (g:=gb456) (o:=.cells #[.int .i64 t452,.slice Ao41 t476.length co41] 30 (0,0)) (by (with_reducible repeat (first|refine blk_drewN ?_ _|refine blk_drew ?_|refine blk_alloc ?_ _));refine blk_far ?_ NB456_493.out _;(with_reducible repeat (first|refine blk_drewN ?_ _|refine blk_drew ?_|refine blk_alloc ?_ _));refine blk_far ?_ NB456_493.out _;(with_reducible repeat (first|refine blk_drewN ?_ _|refine blk_drew ?_|refine blk_alloc ?_ _));exact BK456.out) hb);have n9_:=am (blk_below (g:=gb462) (o:=.cells #[.int .i64 t457,.slice Ao49 t458.length co49] 40 (0,0)) (by (with_reducible repeat (first|refine blk_drewN ?_ _|refine blk_drew ?_|refine blk_alloc ?_ _));refine blk_far ?_ NB462_493.out _;(with_reducible repeat (first|refine blk_drewN ?_ _|refine blk_drew ?_|refine blk_alloc ?_ _));refine blk_far ?_ NB462_493.out _;(with_reducible repeat (first|refine blk_drewN ?_ _|refine blk_drew ?_|refine blk_alloc ?_ _));exact BK462.out) hb);have n10_:=am (blk_below (g:=gb493) (o:=.cells #[.int .i64 t488,.slice Ao141 t489.length co141] 40 (0,0)) (by (with_reducible repeat (first|refine blk_drewN ?_ _|refine blk_drew ?_|refine blk_alloc ?_ _));refine blk_put (cs:=#[.int .i64 t488,.slice none 0 0]) ?_ 1 _ rfl;(with_reducible repeat (first|refine blk_drewN ?_ _|refine blk_drew ?_|refine blk_alloc ?_ _));refine blk_put (cs:=#[.int .i64 0,.slice none 0 0]) ?_ 0 _ rfl;(with_reducible repeat (first|refine blk_drewN ?_ _|refine blk_drew ?_|refine blk_alloc ?_ _));exact BK493.out) hb);have n11_:=am (below_step (by repeat (first|(with_reducible first|exact HB.out|apply below_alloc|apply pw_below_drewN|apply below_drew1|refine below_set ?_ GE433.out|refine below_set ?_ GE448.out|refine below_set ?_ GE456.out|refine below_set ?_ GE462.out|refine below_set ?_ GE493.out)|exact HB.out)) hb);clear HO_449001 HO_457001 HO_463001 HO483 HO487 HO491 BK433 BK448 BK456 BK462 BK493 HB;have HO_449001:=n0_;have HO_457001:=n1_;have HO_463001:=n2_;have HO483:=n3_;have HO487:=n4_;have HO491:=n5_;have BK433:=n6_;have BK448:=n7_;have BK456:=n8_;have BK462:=n9_;have BK493:=n10_;have HB:=n11_;clear n0_ n1_ n2_ n3_ n4_ n5_ n6_ n7_ n8_ n9_ n10_ n11_;(try clear hb);(try clear hb2);(try clear hk);(try clear hi)))
               go_meet
               case rel => exact ⟨_,((t492 != t447)),(by first|rfl|(simp;done)|(simp [*];done)),H',⟨by have:=HJ17.out;have:=HJ76.out;first|omega|exact Nat.le_refl _⟩,⟨by (try simp only [hl457001_76]);(with_reducible repeat (first|apply Kd.R_alloc|apply Kd.R_drewN|apply Kd.R_drew));exact Kd.R_mono HO_449001.out (fun _ hk => ⟨hk.2.2.1,⟨hk.2.2.2,hk.2.1⟩⟩)⟩,⟨by (try simp only [hl457001_76]);(with_reducible repeat (first|apply Kd.R_alloc|apply Kd.R_drewN|apply Kd.R_drew));exact Kd.R_mono HO_457001.out (fun _ hk => ⟨hk.2.2.1,⟨hk.2.2.2,hk.2.1⟩⟩)⟩,⟨by (try simp only [hl457001_76]);(with_reducible repeat (first|apply Kd.R_alloc|apply Kd.R_drewN|apply Kd.R_drew));exact Kd.R_mono HO_463001.out (fun _ hk => ⟨hk.2.2.1,⟨hk.2.2.2,hk.2.1⟩⟩)⟩,⟨by (try simp only [hl457001_76]);(with_reducible repeat (first|apply Kd.R_alloc|apply Kd.R_drewN|apply Kd.R_drew));exact Kd.R_mono HO491.out (fun _ hk => ⟨hk.2.1,⟨hk.2.2.1,hk.2.2.2⟩⟩)⟩,⟨by (try simp only [hl457001_76]);(with_reducible repeat (first|refine blk_drewN ?_ _|refine blk_drew ?_|refine blk_alloc ?_ _));exact BK433.out⟩,⟨by (try simp only [hl457001_76]);(with_reducible repeat (first|refine blk_drewN ?_ _|refine blk_drew ?_|refine blk_alloc ?_ _));exact BK448.out⟩,⟨by (try simp only [hl457001_76]);(with_reducible repeat (first|refine blk_drewN ?_ _|refine blk_drew ?_|refine blk_alloc ?_ _));exact BK456.out⟩,⟨by (try simp only [hl457001_76]);(with_reducible repeat (first|refine blk_drewN ?_ _|refine blk_drew ?_|refine blk_alloc ?_ _));exact BK462.out⟩,⟨by (try simp only [hl457001_76]);(with_reducible repeat (first|refine blk_drewN ?_ _|refine blk_drew ?_|refine blk_alloc ?_ _));exact BK493.out⟩,⟨lup HB.out⟩⟩
              ·replace c144:=Bool.eq_false_iff.mpr c144
               subst c144
               have H1 : (laws_FnExactYoungObject.j2 kj76 t478 true t457 t479) = some r:=by rw [if_neg (show ¬ (false = true) by decide)] at H;exact H
               clear H
               have H:=H1
               clear H1
               have H':=am H
               clear H
               have hnb155:=NB493_433.out
               have hnc155:=NB433_493.out
               have hnb156:=NB493_448.out
               have hnc156:=NB448_493.out
               have hnb157:=NB493_456.out
               have hnc157:=NB456_493.out
               have hnb158:=NB493_462.out
               have hnc158:=NB462_493.out
               have hcz159_0 : w139.cell? ⟨gb493,0,none⟩ = some (.int .i64 0):=(blk_cell BK493.out 0).trans rfl
               have hcz159_1 : w139.cell? ⟨gb493,1,none⟩ = some (.slice none 0 0):=(blk_cell BK493.out 1).trans rfl
               have hfz159_0:=blk_frozen BK493.out 0
               have hfz159_1:=blk_frozen BK493.out 1
               have hnb160:=NB448_433.out
               have hnc160:=NB433_448.out
               have hnb161:=NB448_456.out
               have hnc161:=NB456_448.out
               have hnb162:=NB448_462.out
               have hnc162:=NB462_448.out
               have hcz163_0 : w139.cell? ⟨gb448,0,none⟩ = some (.int .i64 t443):=(blk_cell BK448.out 0).trans rfl
               have hcz163_1 : w139.cell? ⟨gb448,1,none⟩ = some (.slice Ao31 t444.length co31):=(blk_cell BK448.out 1).trans rfl
               have hfz163_0:=blk_frozen BK448.out 0
               have hfz163_1:=blk_frozen BK448.out 1
               go_wp2_with (first|((with_reducible refine gate_callee (f:=35) rfl ?_);refine goesL_ (some 109) rfl rfl Tryd.func35 (by kernel_rfl) rfl #[.agg #[.int .i64 t488,.slice Ao141 t489.length co141],.agg #[.int .i64 t443,.slice Ao31 t444.length co31]] rfl (by (try simp only [List.map_toArray,List.map_cons,List.map_nil]);first|done|rfl|(simp only [List.length_drop,List.length_take];rfl)) ?_;(with_reducible refine (laws_eqObj.calls kj76 t488 _ _ t489 t443 _ _ t444 false _ ?side1 ?side2 ?side3 ?side4 A143.out).mono ?_);(case side1 => refine (Kd.R_reads' (e:=2) (base:=w.heap.size) (ok:=fun k_ => (some k_≠(v486 : Value).ownBlock∧(some k_≠(.slice Ao31 t444.length co31 : Value).ownBlock∧(some k_≠(.slice Ao41 t476.length co41 : Value).ownBlock∧some k_≠(.slice Ao49 t458.length co49 : Value).ownBlock)))) (n:=t489.length) (c:=co141) ?_).2.2;exact (by (with_reducible repeat (first|apply Kd.R_alloc|apply Kd.R_drewN|apply Kd.R_drew));exact (Kd.R_mono (Kd.R_far (p:=⟨gb493,1,none⟩) (Kd.R_far (p:=⟨gb493,0,none⟩) (Kd.R_types HO491.out BK493.out (by decide)) (fun _ hk => hk.2) (.int .i64 t488)) (fun _ hk => hk.2) (.slice Ao141 t489.length co141)) (fun _ h_ => h_.1))));(case side2 => exact (Kd.R_reads' HO491.out).2.1);(case side3 => refine (Kd.R_reads' (e:=2) (base:=w.heap.size) (ok:=fun k_ => (some k_≠(v486 : Value).ownBlock∧(some k_≠(.slice Ao141 t489.length co141 : Value).ownBlock∧(some k_≠(.slice Ao41 t476.length co41 : Value).ownBlock∧some k_≠(.slice Ao49 t458.length co49 : Value).ownBlock)))) (n:=t444.length) (c:=co31) ?_).2.2;exact (by (with_reducible repeat (first|apply Kd.R_alloc|apply Kd.R_drewN|apply Kd.R_drew));exact (Kd.R_mono (Kd.R_far (p:=⟨gb493,1,none⟩) (Kd.R_far (p:=⟨gb493,0,none⟩) (Kd.R_types HO_449001.out BK493.out (by decide)) (fun _ hk => hk.2) (.int .i64 t488)) (fun _ hk => hk.2) (.slice Ao141 t489.length co141)) (fun _ h_ => h_.1))));(case side4 => exact (Kd.R_reads' HO_449001.out).2.1);rintro e w164 ⟨rfl,hb⟩;refine ⟨_,rfl,?_⟩;have n0_:=am (Kd.R_below (by (with_reducible repeat (first|apply Kd.R_alloc|apply Kd.R_drewN|apply Kd.R_drew));exact (Kd.R_mono (Kd.R_far (p:=⟨gb493,1,none⟩) (Kd.R_far (p:=⟨gb493,0,none⟩) (Kd.R_types HO_449001.out BK493.out (by decide)) (fun _ hk => hk.2) (.int .i64 t488)) (fun _ hk => hk.2) (.slice Ao141 t489.length co141)) (fun _ h_ => h_.1))) hb);have n1_:=am (Kd.R_below (by (with_reducible repeat (first|apply Kd.R_alloc|apply Kd.R_drewN|apply Kd.R_drew));exact (Kd.R_mono (Kd.R_far (p:=⟨gb493,1,none⟩) (Kd.R_far (p:=⟨gb493,0,none⟩) (Kd.R_types HO_457001.out BK493.out (by decide)) (fun _ hk => hk.2) (.int .i64 t488)) (fun _ hk => hk.2) (.slice Ao141 t489.length co141)) (fun _ h_ => h_.1))) hb);have n2_:=am (Kd.R_below (by (with_reducible repeat (first|apply Kd.R_alloc|apply Kd.R_drewN|apply Kd.R_drew));exact (Kd.R_mono (Kd.R_far (p:=⟨gb493,1,none⟩) (Kd.R_far (p:=⟨gb493,0,none⟩) (Kd.R_types HO_463001.out BK493.out (by decide)) (fun _ hk => hk.2) (.int .i64 t488)) (fun _ hk => hk.2) (.slice Ao141 t489.length co141)) (fun _ h_ => h_.1))) hb);have n3_:=am (Kd.R_below (by (with_reducible repeat (first|apply Kd.R_alloc|apply Kd.R_drewN|apply Kd.R_drew));exact (Kd.R_mono (Kd.R_far (p:=⟨gb493,1,none⟩) (Kd.R_far (p:=⟨gb493,0,none⟩) (Kd.R_types HO483.out BK493.out (by decide)) (fun _ hk => hk.2) (.int .i64 t488)) (fun _ hk => hk.2) (.slice Ao141 t489.length co141)) (fun _ h_ => h_.1))) hb);have n4_:=am (Kd.R_below (by (with_reducible repeat (first|apply Kd.R_alloc|apply Kd.R_drewN|apply Kd.R_drew));exact (Kd.R_mono (Kd.R_far (p:=⟨gb493,1,none⟩) (Kd.R_far (p:=⟨gb493,0,none⟩) (Kd.R_types HO487.out BK493.out (by decide)) (fun _ hk => hk.2) (.int .i64 t488)) (fun _ hk => hk.2) (.slice Ao141 t489.length co141)) (fun _ h_ => h_.1))) hb);have n5_:=am (Kd.R_below (by (with_reducible repeat (first|apply Kd.R_alloc|apply Kd.R_drewN|apply Kd.R_drew));exact (Kd.R_mono (Kd.R_far (p:=⟨gb493,1,none⟩) (Kd.R_far (p:=⟨gb493,0,none⟩) (Kd.R_types HO491.out BK493.out (by decide)) (fun _ hk => hk.2) (.int .i64 t488)) (fun _ hk => hk.2) (.slice Ao141 t489.length co141)) (fun _ h_ => h_.1))) hb);have n6_:=am (blk_below (g:=gb433) (o:=.cells #[.int .i64 a1_0,.slice A1_1 l1_1.length c1_1] 25 (0,0)) (by (with_reducible repeat (first|refine blk_drewN ?_ _|refine blk_drew ?_|refine blk_alloc ?_ _));refine blk_far ?_ NB433_493.out _;(with_reducible repeat (first|refine blk_drewN ?_ _|refine blk_drew ?_|refine blk_alloc ?_ _));refine blk_far ?_ NB433_493.out _;(with_reducible repeat (first|refine blk_drewN ?_ _|refine blk_drew ?_|refine blk_alloc ?_ _));exact BK433.out) hb);have n7_:=am (blk_below (g:=gb448) (o:=.cells #[.int .i64 t443,.slice Ao31 t444.length co31] 40 (0,0)) (by (with_reducible repeat (first|refine blk_drewN ?_ _|refine blk_drew ?_|refine blk_alloc ?_ _));refine blk_far ?_ NB448_493.out _;(with_reducible repeat (first|refine blk_drewN ?_ _|refine blk_drew ?_|refine blk_alloc ?_ _));refine blk_far ?_ NB448_493.out _;(with_reducible repeat (first|refine blk_drewN ?_ _|refine blk_drew ?_|refine blk_alloc ?_ _));exact BK448.out) hb);have n8_:=am (blk_below (g:=gb456) (o:=.cells #[.int .i64 t452,.slice Ao41 t476.length co41] 30 (0,0)) (by (with_reducible repeat (first|refine blk_drewN ?_ _|refine blk_drew ?_|refine blk_alloc ?_ _));refine blk_far ?_ NB456_493.out _;(with_reducible repeat (first|refine blk_drewN ?_ _|refine blk_drew ?_|refine blk_alloc ?_ _));refine blk_far ?_ NB456_493.out _;(with_reducible repeat (first|refine blk_drewN ?_ _|refine blk_drew ?_|refine blk_alloc ?_ _));exact BK456.out) hb);have n9_:=am (blk_below (g:=gb462) (o:=.cells #[.int .i64 t457,.slice Ao49 t458.length co49] 40 (0,0)) (by (with_reducible repeat (first|refine blk_drewN ?_ _|refine blk_drew ?_|refine blk_alloc ?_ _));refine blk_far ?_ NB462_493.out _;(with_reducible repeat (first|refine blk_drewN ?_ _|refine blk_drew ?_|refine blk_alloc ?_ _));refine blk_far ?_ NB462_493.out _;(with_reducible repeat (first|refine blk_drewN ?_ _|refine blk_drew ?_|refine blk_alloc ?_ _));exact BK462.out) hb);have n10_:=am (blk_below (g:=gb493) (o:=.cells #[.int .i64 t488,.slice Ao141 t489.length co141] 40 (0,0)) (by (with_reducible repeat (first|refine blk_drewN ?_ _|refine blk_drew ?_|refine blk_alloc ?_ _));refine blk_put (cs:=#[.int .i64 t488,.slice none 0 0]) ?_ 1 _ rfl;(with_reducible repeat (first|refine blk_drewN ?_ _|refine blk_drew ?_|refine blk_alloc ?_ _));refine blk_put (cs:=#[.int .i64 0,.slice none 0 0]) ?_ 0 _ rfl;(with_reducible repeat (first|refine blk_drewN ?_ _|refine blk_drew ?_|refine blk_alloc ?_ _));exact BK493.out) hb);have n11_:=am (below_step (by repeat (first|(with_reducible first|exact HB.out|apply below_alloc|apply pw_below_drewN|apply below_drew1|refine below_set ?_ GE433.out|refine below_set ?_ GE448.out|refine below_set ?_ GE456.out|refine below_set ?_ GE462.out|refine below_set ?_ GE493.out)|exact HB.out)) hb);clear HO_449001 HO_457001 HO_463001 HO483 HO487 HO491 BK433 BK448 BK456 BK462 BK493 HB;have HO_449001:=n0_;have HO_457001:=n1_;have HO_463001:=n2_;have HO483:=n3_;have HO487:=n4_;have HO491:=n5_;have BK433:=n6_;have BK448:=n7_;have BK456:=n8_;have BK462:=n9_;have BK493:=n10_;have HB:=n11_;clear n0_ n1_ n2_ n3_ n4_ n5_ n6_ n7_ n8_ n9_ n10_ n11_;(try clear hb);(try clear hb2);(try clear hk);(try clear hi)))
               go_meet
               case rel => exact ⟨_,(true),(by first|rfl|(simp;done)|(simp [*];done)),H',⟨by have:=HJ17.out;have:=HJ76.out;first|omega|exact Nat.le_refl _⟩,⟨by (try simp only [hl457001_76]);(with_reducible repeat (first|apply Kd.R_alloc|apply Kd.R_drewN|apply Kd.R_drew));exact Kd.R_mono HO_449001.out (fun _ hk => ⟨hk.2.2.1,⟨hk.2.2.2,hk.2.1⟩⟩)⟩,⟨by (try simp only [hl457001_76]);(with_reducible repeat (first|apply Kd.R_alloc|apply Kd.R_drewN|apply Kd.R_drew));exact Kd.R_mono HO_457001.out (fun _ hk => ⟨hk.2.2.1,⟨hk.2.2.2,hk.2.1⟩⟩)⟩,⟨by (try simp only [hl457001_76]);(with_reducible repeat (first|apply Kd.R_alloc|apply Kd.R_drewN|apply Kd.R_drew));exact Kd.R_mono HO_463001.out (fun _ hk => ⟨hk.2.2.1,⟨hk.2.2.2,hk.2.1⟩⟩)⟩,⟨by (try simp only [hl457001_76]);(with_reducible repeat (first|apply Kd.R_alloc|apply Kd.R_drewN|apply Kd.R_drew));exact Kd.R_mono HO491.out (fun _ hk => ⟨hk.2.1,⟨hk.2.2.1,hk.2.2.2⟩⟩)⟩,⟨by (try simp only [hl457001_76]);(with_reducible repeat (first|refine blk_drewN ?_ _|refine blk_drew ?_|refine blk_alloc ?_ _));exact BK433.out⟩,⟨by (try simp only [hl457001_76]);(with_reducible repeat (first|refine blk_drewN ?_ _|refine blk_drew ?_|refine blk_alloc ?_ _));exact BK448.out⟩,⟨by (try simp only [hl457001_76]);(with_reducible repeat (first|refine blk_drewN ?_ _|refine blk_drew ?_|refine blk_alloc ?_ _));exact BK456.out⟩,⟨by (try simp only [hl457001_76]);(with_reducible repeat (first|refine blk_drewN ?_ _|refine blk_drew ?_|refine blk_alloc ?_ _));exact BK462.out⟩,⟨by (try simp only [hl457001_76]);(with_reducible repeat (first|refine blk_drewN ?_ _|refine blk_drew ?_|refine blk_alloc ?_ _));exact BK493.out⟩,⟨lup HB.out⟩⟩
             case rest =>
              clear HC124
              try clear c1
              try clear c2
              try clear p2
              try clear c3
              try clear c14
              try clear c15
              try clear c16
              try clear c19
              try clear c20
              try clear c34
              try clear c35
              try clear c144
              try clear c145
              try clear c146
              try clear c147
              try clear c148
              try clear c150
              try clear c151
              try clear c152
              try clear c155
              try clear c156
              try clear c157
              try clear c158
              try clear c160
              try clear c161
              try clear c162
              try clear hcz149_0
              try clear hcz149_1
              try clear hcz153_0
              try clear hcz153_1
              try clear hcz159_0
              try clear hcz159_1
              try clear hcz163_0
              try clear hcz163_1
              try clear hfz149_0
              try clear hfz149_1
              try clear hfz153_0
              try clear hfz153_1
              try clear hfz159_0
              try clear hfz159_1
              try clear hfz163_0
              try clear hfz163_1
              obtain ⟨kq,x115_123,rfl,HA,HJ123,HO_449001,HO_457001,HO_463001,HO_494001,BK433,BK448,BK456,BK462,BK493,HB⟩:=hcut
              have hl463001_123:=(Kd.R_reads' HO_463001.out).1
              rw [hl463001_123] at HO_463001
              (try simp only [hl463001_123])
              (try simp only [hl463001_123] at BK433)
              (try simp only [hl463001_123] at BK448)
              (try simp only [hl463001_123] at BK456)
              (try simp only [hl463001_123] at BK462)
              (try simp only [hl463001_123] at BK493)
              (try simp only [hl463001_123] at HO_449001)
              (try simp only [hl463001_123] at HO_457001)
              (try simp only [hl463001_123] at HO_494001)
              cases kq with
              | zero => exact absurd HA.out (by simp [laws_FnExactYoungObject.j2])
              | succ kj123 =>
               have H:=HA.out
               clear HA
               simp only [laws_FnExactYoungObject.j2] at H
               by_cases c165 : x115_123 = true
               ·subst c165
                have H1 : (some false) = some r:=by rw [if_pos rfl] at H;exact H
                clear H
                have H:=H1
                clear H1
                obtain rfl:=Option.some.inj H
                go_wp2
                go_ret
                exact ⟨by first|rfl|(simp [errW_none,errW_some] <;> rfl)|(simp [*,errW_none,errW_some] <;> rfl),by repeat (first|(with_reducible first|exact HB.out|apply below_alloc|apply pw_below_drewN|apply below_drew1|refine below_set ?_ GE433.out|refine below_set ?_ GE448.out|refine below_set ?_ GE456.out|refine below_set ?_ GE462.out|refine below_set ?_ GE493.out)|exact HB.out)⟩
               ·replace c165:=Bool.eq_false_iff.mpr c165
                subst c165
                have H1 : ((laws_heldObj.f kj123 t457 t479 1).bind fun t495 => (if t495 < 0 then (some false) else (if t495 = t478 then (some true) else (some false)))) = some r:=by rw [if_neg (show ¬ (false = true) by decide)] at H;exact H
                clear H
                have H:=H1
                clear H1
                replace H:=Option.bind_eq_some_iff.mp H
                obtain ⟨t495,A1660,H⟩:=H
                replace H : (if t495 < 0 then (some false) else (if t495 = t478 then (some true) else (some false))) = some r:=H
                have A166:=am A1660
                clear A1660
                by_cases c167 : t495 < 0
                ·rw [if_pos c167] at H
                 have c167b0 : decide (t495 < 0) = true:=decide_eq_true c167
                 clear c167
                 obtain rfl:=Option.some.inj H
                 have hnb168:=NB462_433.out
                 have hnc168:=NB433_462.out
                 have hnb169:=NB462_448.out
                 have hnc169:=NB448_462.out
                 have hnb170:=NB462_456.out
                 have hnc170:=NB456_462.out
                 have hnb171:=NB462_493.out
                 have hnc171:=NB493_462.out
                 have hcz172_0 : wc.cell? ⟨gb462,0,none⟩ = some (.int .i64 t457):=(blk_cell BK462.out 0).trans rfl
                 have hcz172_1 : wc.cell? ⟨gb462,1,none⟩ = some (.slice Ao49 t479.length co49):=(blk_cell BK462.out 1).trans rfl
                 have hfz172_0:=blk_frozen BK462.out 0
                 have hfz172_1:=blk_frozen BK462.out 1
                 go_wp2_with (first|((with_reducible refine gate_callee (f:=37) rfl ?_);refine goesL_ (some 118) rfl rfl Tryd.func37 (by kernel_rfl) rfl #[.agg #[.int .i64 t457,.slice Ao49 t479.length co49],.int .i64 1] rfl (by (try simp only [List.map_toArray,List.map_cons,List.map_nil]);first|done|rfl|(simp only [List.length_drop,List.length_take];rfl)) ?_;(with_reducible refine (laws_heldObj.calls kj123 t457 _ _ t479 1 t495 _ ?side1 ?side2 A166.out).mono ?_);(case side1 => repeat (first|exact (Kd.R_reads' HO_463001.out).2.2|(with_reducible first|refine Kd.C_alloc ?_ _|refine Kd.C_drewN ?_ _|refine Kd.C_drew ?_)));(case side2 => exact (Kd.R_reads' HO_463001.out).2.1);rintro e w173 ⟨rfl,hb⟩;refine ⟨_,rfl,?_⟩;have n0_:=am (Kd.R_below (kup HO_449001.out) hb);have n1_:=am (Kd.R_below (kup HO_457001.out) hb);have n2_:=am (Kd.R_below (kup HO_463001.out) hb);have n3_:=am (Kd.R_below (kup HO_494001.out) hb);have n4_:=am (blk_below (bup BK433.out) hb);have n5_:=am (blk_below (bup BK448.out) hb);have n6_:=am (blk_below (bup BK456.out) hb);have n7_:=am (blk_below (bup BK462.out) hb);have n8_:=am (blk_below (bup BK493.out) hb);have n9_:=am (below_step (lup HB.out) hb);clear HO_449001 HO_457001 HO_463001 HO_494001 BK433 BK448 BK456 BK462 BK493 HB;have HO_449001:=n0_;have HO_457001:=n1_;have HO_463001:=n2_;have HO_494001:=n3_;have BK433:=n4_;have BK448:=n5_;have BK456:=n6_;have BK462:=n7_;have BK493:=n8_;have HB:=n9_;clear n0_ n1_ n2_ n3_ n4_ n5_ n6_ n7_ n8_ n9_;(try clear hb);(try clear hb2);(try clear hk);(try clear hi)))
                 go_ret
                 exact ⟨by first|rfl|(simp [errW_none,errW_some] <;> rfl)|(simp [*,errW_none,errW_some] <;> rfl),by repeat (first|(with_reducible first|exact HB.out|apply below_alloc|apply pw_below_drewN|apply below_drew1|refine below_set ?_ GE433.out|refine below_set ?_ GE448.out|refine below_set ?_ GE456.out|refine below_set ?_ GE462.out|refine below_set ?_ GE493.out)|exact HB.out)⟩
                ·rw [if_neg c167] at H
                 have c167b0 : decide (t495 < 0) = false:=decide_eq_false c167
                 clear c167
                 by_cases c174 : t495 = t478
                 ·rw [if_pos c174] at H
                  have c174b0 : (t495 == t478) = true:=beq_iff_eq.mpr c174
                  have c174b1 : (t495 != t478) = false:=bne_eq_false_iff_eq.mpr c174
                  clear c174
                  obtain rfl:=Option.some.inj H
                  have hnb175:=NB462_433.out
                  have hnc175:=NB433_462.out
                  have hnb176:=NB462_448.out
                  have hnc176:=NB448_462.out
                  have hnb177:=NB462_456.out
                  have hnc177:=NB456_462.out
                  have hnb178:=NB462_493.out
                  have hnc178:=NB493_462.out
                  have hcz179_0 : wc.cell? ⟨gb462,0,none⟩ = some (.int .i64 t457):=(blk_cell BK462.out 0).trans rfl
                  have hcz179_1 : wc.cell? ⟨gb462,1,none⟩ = some (.slice Ao49 t479.length co49):=(blk_cell BK462.out 1).trans rfl
                  have hfz179_0:=blk_frozen BK462.out 0
                  have hfz179_1:=blk_frozen BK462.out 1
                  go_wp2_with (first|((with_reducible refine gate_callee (f:=37) rfl ?_);refine goesL_ (some 118) rfl rfl Tryd.func37 (by kernel_rfl) rfl #[.agg #[.int .i64 t457,.slice Ao49 t479.length co49],.int .i64 1] rfl (by (try simp only [List.map_toArray,List.map_cons,List.map_nil]);first|done|rfl|(simp only [List.length_drop,List.length_take];rfl)) ?_;(with_reducible refine (laws_heldObj.calls kj123 t457 _ _ t479 1 t495 _ ?side1 ?side2 A166.out).mono ?_);(case side1 => repeat (first|exact (Kd.R_reads' HO_463001.out).2.2|(with_reducible first|refine Kd.C_alloc ?_ _|refine Kd.C_drewN ?_ _|refine Kd.C_drew ?_)));(case side2 => exact (Kd.R_reads' HO_463001.out).2.1);rintro e w180 ⟨rfl,hb⟩;refine ⟨_,rfl,?_⟩;have n0_:=am (Kd.R_below (kup HO_449001.out) hb);have n1_:=am (Kd.R_below (kup HO_457001.out) hb);have n2_:=am (Kd.R_below (kup HO_463001.out) hb);have n3_:=am (Kd.R_below (kup HO_494001.out) hb);have n4_:=am (blk_below (bup BK433.out) hb);have n5_:=am (blk_below (bup BK448.out) hb);have n6_:=am (blk_below (bup BK456.out) hb);have n7_:=am (blk_below (bup BK462.out) hb);have n8_:=am (blk_below (bup BK493.out) hb);have n9_:=am (below_step (lup HB.out) hb);clear HO_449001 HO_457001 HO_463001 HO_494001 BK433 BK448 BK456 BK462 BK493 HB;have HO_449001:=n0_;have HO_457001:=n1_;have HO_463001:=n2_;have HO_494001:=n3_;have BK433:=n4_;have BK448:=n5_;have BK456:=n6_;have BK462:=n7_;have BK493:=n8_;have HB:=n9_;clear n0_ n1_ n2_ n3_ n4_ n5_ n6_ n7_ n8_ n9_;(try clear hb);(try clear hb2);(try clear hk);(try clear hi)))
                  go_ret
                  exact ⟨by first|rfl|(simp [errW_none,errW_some] <;> rfl)|(simp [*,errW_none,errW_some] <;> rfl),by repeat (first|(with_reducible first|exact HB.out|apply below_alloc|apply pw_below_drewN|apply below_drew1|refine below_set ?_ GE433.out|refine below_set ?_ GE448.out|refine below_set ?_ GE456.out|refine below_set ?_ GE462.out|refine below_set ?_ GE493.out)|exact HB.out)⟩
                 ·rw [if_neg c174] at H
                  have c174b0 : (t495 == t478) = false:=beq_eq_false_iff_ne.mpr c174
                  have c174b1 : (t495 != t478) = true:=bne_iff_ne.mpr c174
                  obtain rfl:=Option.some.inj H
                  have hnb181:=NB462_433.out
                  have hnc181:=NB433_462.out
                  have hnb182:=NB462_448.out
                  have hnc182:=NB448_462.out
                  have hnb183:=NB462_456.out
                  have hnc183:=NB456_462.out
                  have hnb184:=NB462_493.out
                  have hnc184:=NB493_462.out
                  have hcz185_0 : wc.cell? ⟨gb462,0,none⟩ = some (.int .i64 t457):=(blk_cell BK462.out 0).trans rfl
                  have hcz185_1 : wc.cell? ⟨gb462,1,none⟩ = some (.slice Ao49 t479.length co49):=(blk_cell BK462.out 1).trans rfl
                  have hfz185_0:=blk_frozen BK462.out 0
                  have hfz185_1:=blk_frozen BK462.out 1
                  go_wp2_with (first|((with_reducible refine gate_callee (f:=37) rfl ?_);refine goesL_ (some 118) rfl rfl Tryd.func37 (by kernel_rfl) rfl #[.agg #[.int .i64 t457,.slice Ao49 t479.length co49],.int .i64 1] rfl (by (try simp only [List.map_toArray,List.map_cons,List.map_nil]);first|done|rfl|(simp only [List.length_drop,List.length_take];rfl)) ?_;(with_reducible refine (laws_heldObj.calls kj123 t457 _ _ t479 1 t495 _ ?side1 ?side2 A166.out).mono ?_);(case side1 => repeat (first|exact (Kd.R_reads' HO_463001.out).2.2|(with_reducible first|refine Kd.C_alloc ?_ _|refine Kd.C_drewN ?_ _|refine Kd.C_drew ?_)));(case side2 => exact (Kd.R_reads' HO_463001.out).2.1);rintro e w186 ⟨rfl,hb⟩;refine ⟨_,rfl,?_⟩;have n0_:=am (Kd.R_below (kup HO_449001.out) hb);have n1_:=am (Kd.R_below (kup HO_457001.out) hb);have n2_:=am (Kd.R_below (kup HO_463001.out) hb);have n3_:=am (Kd.R_below (kup HO_494001.out) hb);have n4_:=am (blk_below (bup BK433.out) hb);have n5_:=am (blk_below (bup BK448.out) hb);have n6_:=am (blk_below (bup BK456.out) hb);have n7_:=am (blk_below (bup BK462.out) hb);have n8_:=am (blk_below (bup BK493.out) hb);have n9_:=am (below_step (lup HB.out) hb);clear HO_449001 HO_457001 HO_463001 HO_494001 BK433 BK448 BK456 BK462 BK493 HB;have HO_449001:=n0_;have HO_457001:=n1_;have HO_463001:=n2_;have HO_494001:=n3_;have BK433:=n4_;have BK448:=n5_;have BK456:=n6_;have BK462:=n7_;have BK493:=n8_;have HB:=n9_;clear n0_ n1_ n2_ n3_ n4_ n5_ n6_ n7_ n8_ n9_;(try clear hb);(try clear hb2);(try clear hk);(try clear hi)))
                  go_ret
                  exact ⟨by first|rfl|(simp [errW_none,errW_some] <;> rfl)|(simp [*,errW_none,errW_some] <;> rfl),by repeat (first|(with_reducible first|exact HB.out|apply below_alloc|apply pw_below_drewN|apply below_drew1|refine below_set ?_ GE433.out|refine below_set ?_ GE448.out|refine below_set ?_ GE456.out|refine below_set ?_ GE462.out|refine below_set ?_ GE493.out)|exact HB.out)⟩
            ·rw [if_neg c120] at H
             have c120b0 : (t480 == t478) = false:=beq_eq_false_iff_ne.mpr c120
             have c120b1 : (t480 != t478) = true:=bne_iff_ne.mpr c120
             obtain rfl:=Option.some.inj H
             have hnb187:=NB462_433.out
             have hnc187:=NB433_462.out
             have hnb188:=NB462_448.out
             have hnc188:=NB448_462.out
             have hnb189:=NB462_456.out
             have hnc189:=NB456_462.out
             have hcz190_0 : wc.cell? ⟨gb462,0,none⟩ = some (.int .i64 t457):=(blk_cell BK462.out 0).trans rfl
             have hcz190_1 : wc.cell? ⟨gb462,1,none⟩ = some (.slice Ao49 t458.length co49):=(blk_cell BK462.out 1).trans rfl
             have hfz190_0:=blk_frozen BK462.out 0
             have hfz190_1:=blk_frozen BK462.out 1
             go_wp2_with (first|((with_reducible refine gate_callee (f:=36) rfl ?_);refine goesL_ (some 89) rfl rfl Tryd.func36 (by kernel_rfl) rfl #[.agg #[.int .i64 t457,.slice Ao49 t458.length co49],.int .i64 1] rfl (by (try simp only [List.map_toArray,List.map_cons,List.map_nil]);first|done|rfl|(simp only [List.length_drop,List.length_take];rfl)) ?_;(with_reducible refine (laws_markObj.calls kj76 t457 (fun k_ => some k_ = (.slice Ao49 t458.length co49 : Value).ownBlock) (.slice Ao49 t458.length co49) t458 1 t478 t479 w _ ?side1 ?side2 A110.out).mono ?_);(case side1 => repeat (first|(with_reducible first|exact HB.out|apply below_alloc|apply pw_below_drewN|apply below_drew1|refine below_set ?_ GE433.out|refine below_set ?_ GE448.out|refine below_set ?_ GE456.out|refine below_set ?_ GE462.out)|exact HB.out));(case side2 => exact Kd.R_tight rfl HO_463001.out);rintro e w191 ⟨rfl,hy0,hb,hkp⟩;refine ⟨_,rfl,?_⟩;have n0_:=am (Kd.R_mono (ok':=fun k_ => some k_≠(.slice Ao41 t476.length co41 : Value).ownBlock∧some k_≠(.slice Ao49 t458.length co49 : Value).ownBlock) (Kd.R_keptB (HO_449001.out) hkp (fun k_ hk_ hs_ => by first|exact hk_.2 hs_|exact hk_ hs_)) (fun k_ hk_ => by first|exact ⟨hk_.1.1,hk_.1.2⟩|(simp only [and_assoc] at hk_;exact ⟨hk_.1,hk_.2.1⟩)));have n1_:=am (Kd.R_mono (ok':=fun k_ => some k_≠(.slice Ao31 t444.length co31 : Value).ownBlock∧some k_≠(.slice Ao49 t458.length co49 : Value).ownBlock) (Kd.R_keptB (HO_457001.out) hkp (fun k_ hk_ hs_ => by first|exact hk_.2 hs_|exact hk_ hs_)) (fun k_ hk_ => by first|exact ⟨hk_.1.1,hk_.1.2⟩|(simp only [and_assoc] at hk_;exact ⟨hk_.1,hk_.2.1⟩)));have n2_:=am (Kd.R_reok rfl hy0 (fun k_ e_ => HO_463001.out.1 k_ e_));have n3_:=am (blk_kept (bup BK433.out) hkp (fun hs_ => (fun e_ => (Kd.R_ne HO_463001.out BK433.out (by decide)) e_) hs_));have n4_:=am (blk_kept (bup BK448.out) hkp (fun hs_ => (fun e_ => (Kd.R_ne HO_463001.out BK448.out (by decide)) e_) hs_));have n5_:=am (blk_kept (bup BK456.out) hkp (fun hs_ => (fun e_ => (Kd.R_ne HO_463001.out BK456.out (by decide)) e_) hs_));have n6_:=am (blk_kept (bup BK462.out) hkp (fun hs_ => (fun e_ => (Kd.R_ne HO_463001.out BK462.out (by decide)) e_) hs_));have n7_:=am (hb);clear HO_449001 HO_457001 HO_463001 BK433 BK448 BK456 BK462 HB;have HO_449001:=n0_;have HO_457001:=n1_;have HO_463001:=n2_;have BK433:=n3_;have BK448:=n4_;have BK456:=n5_;have BK462:=n6_;have HB:=n7_;clear n0_ n1_ n2_ n3_ n4_ n5_ n6_ n7_;(try clear hb);(try clear hkp);(try clear hy0);have hcz192_0 : w191.cell? ⟨gb462,0,none⟩ = some (.int .i64 t457):=(blk_cell BK462.out 0).trans rfl;have hcz192_1 : w191.cell? ⟨gb462,1,none⟩ = some (.slice Ao49 t458.length co49):=(blk_cell BK462.out 1).trans rfl;have hfz192_0:=blk_frozen BK462.out 0;have hfz192_1:=blk_frozen BK462.out 1)|((with_reducible refine gate_callee (f:=37) rfl ?_);refine goesL_ (some 92) rfl rfl Tryd.func37 (by kernel_rfl) rfl #[.agg #[.int .i64 t457,.slice Ao49 t479.length co49],.int .i64 1] rfl (by (try simp only [List.map_toArray,List.map_cons,List.map_nil]);first|done|(rw [show t479.length = t458.length from (Kd.R_reads' HO_463001.out).1.symm] <;> rfl)|rfl|(simp only [List.length_drop,List.length_take];rfl)) ?_;(with_reducible refine (laws_heldObj.calls kj76 t457 _ _ t479 1 t480 _ ?side1 ?side2 A111.out).mono ?_);(case side1 => repeat (first|exact (Kd.R_reads' HO_463001.out).2.2|(with_reducible first|refine Kd.C_alloc ?_ _|refine Kd.C_drewN ?_ _|refine Kd.C_drew ?_)));(case side2 => rw [show t479.length = t458.length from (Kd.R_reads' HO_463001.out).1.symm];exact (Kd.R_reads' HO_463001.out).2.1);rintro e w193 ⟨rfl,hb⟩;refine ⟨_,rfl,?_⟩;have n0_:=am (Kd.R_below (kup HO_449001.out) hb);have n1_:=am (Kd.R_below (kup HO_457001.out) hb);have n2_:=am (Kd.R_below (kup HO_463001.out) hb);have n3_:=am (blk_below (bup BK433.out) hb);have n4_:=am (blk_below (bup BK448.out) hb);have n5_:=am (blk_below (bup BK456.out) hb);have n6_:=am (blk_below (bup BK462.out) hb);have n7_:=am (below_step (lup HB.out) hb);clear HO_449001 HO_457001 HO_463001 BK433 BK448 BK456 BK462 HB;have HO_449001:=n0_;have HO_457001:=n1_;have HO_463001:=n2_;have BK433:=n3_;have BK448:=n4_;have BK456:=n5_;have BK462:=n6_;have HB:=n7_;clear n0_ n1_ n2_ n3_ n4_ n5_ n6_ n7_;(try clear hb);(try clear hb2);(try clear hk);(try clear hi)))
             go_ret
             exact ⟨by first|rfl|(simp [errW_none,errW_some] <;> rfl)|(simp [*,errW_none,errW_some] <;> rfl),by repeat (first|(with_reducible first|exact HB.out|apply below_alloc|apply pw_below_drewN|apply below_drew1|refine below_set ?_ GE433.out|refine below_set ?_ GE448.out|refine below_set ?_ GE456.out|refine below_set ?_ GE462.out)|exact HB.out)⟩
       ·replace c74:=Bool.eq_false_iff.mpr c74
        subst c74
        have H1 : (some false) = some r:=by rw [if_neg (show ¬ (false = true) by decide)] at H;exact H
        clear H
        have H:=H1
        clear H1
        obtain rfl:=Option.some.inj H
        try go_wp2_with (first|((with_reducible refine gate_callee (f:=19) rfl ?_);refine goesL_ (some 60) rfl rfl Tryd.func19 (by kernel_rfl) rfl #[.slice A0 l0.length c0] rfl (by (try simp only [List.map_toArray,List.map_cons,List.map_nil]);first|done|rfl|(simp only [List.length_drop,List.length_take];rfl)) ?_;(with_reducible refine (laws_toStringS.calls kj17 _ _ l0 t464 _ ?side1 ?side2 A69.out).mono ?_);(case side1 => repeat (first|exact (Kd.C_below HR0.out HB.out)|(with_reducible first|refine Kd.C_alloc ?_ _|refine Kd.C_drewN ?_ _|refine Kd.C_drew ?_)));(case side2 => exact HC0.out);rintro e w194 ⟨v465,rfl,ho0,hb⟩;refine ⟨_,rfl,?_⟩;have n0_:=am (Kd.R_elder' (kup HO_10.out) (Kd.R_base ho0) hb);have n1_:=am (Kd.R_below (kup HO_449001.out) hb);have n2_:=am (Kd.R_below (kup HO_457001.out) hb);have n3_:=am (Kd.R_below (kup HO_463001.out) hb);have n4_:=am (Kd.R_lower (Kd.R_new' ho0 (Kd.R_lt (kup HO_10.out))) (below_size (lup HB.out)));have n5_:=am (blk_below (bup BK433.out) hb);have n6_:=am (blk_below (bup BK448.out) hb);have n7_:=am (blk_below (bup BK456.out) hb);have n8_:=am (blk_below (bup BK462.out) hb);have n9_:=am (below_step (lup HB.out) hb);clear HO_10 HO_449001 HO_457001 HO_463001 BK433 BK448 BK456 BK462 HB;have HO_10:=n0_;have HO_449001:=n1_;have HO_457001:=n2_;have HO_463001:=n3_;have HO466:=n4_;have BK433:=n5_;have BK448:=n6_;have BK456:=n7_;have BK462:=n8_;have HB:=n9_;clear n0_ n1_ n2_ n3_ n4_ n5_ n6_ n7_ n8_ n9_;(try clear hb);(try clear hb2);(try clear hk);(try clear hi);(try clear ho0);obtain ⟨Ao195,co195,eo195⟩:=Kd.R_slice HO466.out;subst eo195)|((with_reducible refine gate_callee (f:=22) rfl ?_);refine goesL_ (some 61) rfl rfl Tryd.func22 (by kernel_rfl) rfl #[.slice Ao42 t449.length co42,.slice Ao195 t464.length co195] rfl (by (try simp only [List.map_toArray,List.map_cons,List.map_nil]);first|done|rfl|(simp only [List.length_drop,List.length_take];rfl)) ?_;(with_reducible refine (laws_eqStringS.calls kj17 _ _ t449 _ _ t464 true _ ?side1 ?side2 ?side3 ?side4 A70.out).mono ?_);(case side1 => repeat (first|exact (Kd.R_reads' HO_10.out).2.2|(with_reducible first|refine Kd.C_alloc ?_ _|refine Kd.C_drewN ?_ _|refine Kd.C_drew ?_)));(case side2 => exact (Kd.R_reads' HO_10.out).2.1);(case side3 => repeat (first|exact (Kd.R_reads' HO466.out).2.2|(with_reducible first|refine Kd.C_alloc ?_ _|refine Kd.C_drewN ?_ _|refine Kd.C_drew ?_)));(case side4 => exact (Kd.R_reads' HO466.out).2.1);rintro e w' ⟨rfl,⟨nd,rfl⟩⟩;refine ⟨_,rfl,?_⟩))
        (try (rw [drewN_self w194];generalize hq_ : World.drewN w194 _ = w194;have n0_ : Aside0 (Kd.R Kd.string 9 w194 w.heap.size (fun k_ => some k_≠(.slice Ao42 t449.length co42 : Value).ownBlock) (.slice Ao195 t464.length co195) t464):=⟨by rw [← hq_];exact (kup (Kd.R_mono HO466.out (fun _ hk => hk.2)))⟩;have n1_ : Aside0 (Kd.R Kd.string 9 w194 w.heap.size (fun k_ => some k_≠(.slice Ao195 t464.length co195 : Value).ownBlock) (.slice Ao42 t449.length co42) t449):=⟨by rw [← hq_];exact (kup (Kd.R_mono HO_10.out (fun _ hk => hk.2)))⟩;have n2_ : Aside0 (Kd.R (Kd.int .i64) 2 w194 w.heap.size (fun k_ => some k_≠(.slice Ao41 t453.length co41 : Value).ownBlock∧some k_≠(.slice Ao49 t458.length co49 : Value).ownBlock) (.slice Ao31 t444.length co31) t444):=⟨by rw [← hq_];exact (kup HO_449001.out)⟩;have n3_ : Aside0 (Kd.R (Kd.int .i64) 2 w194 w.heap.size (fun k_ => some k_≠(.slice Ao31 t444.length co31 : Value).ownBlock∧some k_≠(.slice Ao49 t458.length co49 : Value).ownBlock) (.slice Ao41 t453.length co41) t453):=⟨by rw [← hq_];exact (kup HO_457001.out)⟩;have n4_ : Aside0 (Kd.R (Kd.int .i64) 2 w194 w.heap.size (fun k_ => some k_≠(.slice Ao31 t444.length co31 : Value).ownBlock∧some k_≠(.slice Ao41 t453.length co41 : Value).ownBlock) (.slice Ao49 t458.length co49) t458):=⟨by rw [← hq_];exact (kup HO_463001.out)⟩;have n5_ : Aside0 (w194.heap[gb433]? = some (.cells #[.int .i64 a1_0,.slice A1_1 l1_1.length c1_1] 25 (0,0))):=⟨by rw [← hq_];exact (bup BK433.out)⟩;have n6_ : Aside0 (w194.heap[gb448]? = some (.cells #[.int .i64 t443,.slice Ao31 t444.length co31] 40 (0,0))):=⟨by rw [← hq_];exact (bup BK448.out)⟩;have n7_ : Aside0 (w194.heap[gb456]? = some (.cells #[.int .i64 t452,.slice Ao41 t453.length co41] 30 (0,0))):=⟨by rw [← hq_];exact (bup BK456.out)⟩;have n8_ : Aside0 (w194.heap[gb462]? = some (.cells #[.int .i64 t457,.slice Ao49 t458.length co49] 40 (0,0))):=⟨by rw [← hq_];exact (bup BK462.out)⟩;have n9_ : Aside0 (Below w.heap.size w w194):=⟨by rw [← hq_];exact (lup HB.out)⟩;clear HO466 HO_10 HO_449001 HO_457001 HO_463001 BK433 BK448 BK456 BK462 HB hq_;have HO466:=n0_;have HO_10:=n1_;have HO_449001:=n2_;have HO_457001:=n3_;have HO_463001:=n4_;have BK433:=n5_;have BK448:=n6_;have BK456:=n7_;have BK462:=n8_;have HB:=n9_;clear n0_ n1_ n2_ n3_ n4_ n5_ n6_ n7_ n8_ n9_))
        have n0_:=am (Kd.R_drew HO_10.out)
        have n1_:=am (Kd.R_drew HO_449001.out)
        have n2_:=am (Kd.R_drew HO_457001.out)
        have n3_:=am (Kd.R_drew HO_463001.out)
        have n4_:=am (Kd.R_drew HO466.out)
        have n5_:=am (blk_drew BK433.out)
        have n6_:=am (blk_drew BK448.out)
        have n7_:=am (blk_drew BK456.out)
        have n8_:=am (blk_drew BK462.out)
        have n9_:=am (below_drew1 HB.out)
        clear HO_10
        clear HO_449001
        clear HO_457001
        clear HO_463001
        clear HO466
        clear BK433
        clear BK448
        clear BK456
        clear BK462
        clear HB
        have HO_10:=n0_
        have HO_449001:=n1_
        have HO_457001:=n2_
        have HO_463001:=n3_
        have HO466:=n4_
        have BK433:=n5_
        have BK448:=n6_
        have BK456:=n7_
        have BK462:=n8_
        have HB:=n9_
        clear n0_ n1_ n2_ n3_ n4_ n5_ n6_ n7_ n8_ n9_
        refine start_ (n:=5) (S:=fun w' => w'.cell? ⟨gb456,0,none⟩ = some (.int .i64 t452)∧w'.cell? ⟨gb456,1,none⟩ = some (.slice Ao41 t453.length co41)∧w'.cell? ⟨gb433,0,none⟩ = some (.int .i64 a1_0)∧w'.cell? ⟨gb433,1,none⟩ = some (.slice A1_1 l1_1.length c1_1)) (ds:=[]) #[false,false,false,false,false] (by kernel_rfl) rfl rfl ⟨(blk_cell BK456.out 0).trans rfl,(blk_cell BK456.out 1).trans rfl,(blk_cell BK433.out 0).trans rfl,(blk_cell BK433.out 1).trans rfl⟩ (fun hHeld => ?_)
        generalize w194.drew = w196 at HO_10 HO_449001 HO_457001 HO_463001 HO466 BK433 BK448 BK456 BK462 HB hHeld ⊢
        refine take_ (i:=0) (N:=some 63) (v:=?_) (a':=?_) #[true,false,false,false,false] rfl rfl (by kernel_rfl) (fun _ _ _ h => h) (Or.inl ⟨by rfl,?_⟩) hHeld ?_ ?_
        rotate_left
        ·rintro w' ⟨s0,s1,s2,s3⟩
         go_simp
         with_reducible rfl
        rotate_left
        ·simp only [Act.put,List.setIfInBounds_toArray,List.set_cons_zero,List.set_cons_succ,i64_w,i32_w]
         rfl
        refine take_ (i:=1) (N:=some 64) (v:=?_) (a':=?_) #[true,true,false,false,false] rfl rfl (by kernel_rfl) (fun _ _ _ h => h) (Or.inl ⟨by rfl,?_⟩) hHeld ?_ ?_
        rotate_left
        ·rintro w' ⟨s0,s1,s2,s3⟩
         go_simp
         with_reducible rfl
        rotate_left
        ·simp only [Act.put,List.setIfInBounds_toArray,List.set_cons_zero,List.set_cons_succ,i64_w,i32_w]
         rfl
        refine one_ (i:=2) (N:=some 65) #[true,true,true,false,false] rfl rfl (by kernel_rfl) (by decide) (fun K hK => ?_)
        refine goes_ Tryd.func20 (by kernel_rfl) rfl #[.agg #[.int .i64 a1_0,.slice A1_1 l1_1.length c1_1]] (by rfl) rfl rfl (by (try simp only [List.map_toArray,List.map_cons,List.map_nil]);first|done|rfl|(simp only [List.length_drop,List.length_take];rfl)) ?_
        with_reducible refine (laws_toNursery.calls kj17 a1_0 _ _ l1_1 t468 t469 _ ?side1 ?side2 A72.out).mono ?_
        (case side1 => repeat (first|exact (Kd.C_below HR1_1.out HB.out)|(with_reducible first|refine Kd.C_alloc ?_ _|refine Kd.C_drewN ?_ _|refine Kd.C_drew ?_)))
        (case side2 => exact HC1_1.out)
        rintro e w197 ⟨v470,rfl,ho0,hb⟩
        refine ⟨_,rfl,?_⟩
        have n0_:=am (Kd.R_below (kup HO_10.out) hb)
        have n1_:=am (Kd.R_elder' (kup HO_449001.out) (Kd.R_base ho0) hb)
        have n2_:=am (Kd.R_elder' (kup HO_457001.out) (Kd.R_base ho0) hb)
        have n3_:=am (Kd.R_elder' (kup HO_463001.out) (Kd.R_base ho0) hb)
        have n4_:=am (Kd.R_below (kup HO466.out) hb)
        have n5_:=am (Kd.R_lower (Kd.R_new' (Kd.R_new' (Kd.R_new' ho0 (Kd.R_lt (kup HO_449001.out))) (Kd.R_lt (kup HO_457001.out))) (Kd.R_lt (kup HO_463001.out))) (below_size (lup HB.out)))
        have n6_:=am (blk_below (bup BK433.out) hb)
        have n7_:=am (blk_below (bup BK448.out) hb)
        have n8_:=am (blk_below (bup BK456.out) hb)
        have n9_:=am (blk_below (bup BK462.out) hb)
        have n10_:=am (below_step (lup HB.out) hb)
        clear HO_10
        clear HO_449001
        clear HO_457001
        clear HO_463001
        clear HO466
        clear BK433
        clear BK448
        clear BK456
        clear BK462
        clear HB
        have HO_10:=n0_
        have HO_449001:=n1_
        have HO_457001:=n2_
        have HO_463001:=n3_
        have HO466:=n4_
        have HO471:=n5_
        have BK433:=n6_
        have BK448:=n7_
        have BK456:=n8_
        have BK462:=n9_
        have HB:=n10_
        clear n0_ n1_ n2_ n3_ n4_ n5_ n6_ n7_ n8_ n9_ n10_
        (try clear hb)
        (try clear hb2)
        (try clear hk)
        (try clear hi)
        (try clear ho0)
        obtain ⟨Ao198,co198,eo198⟩:=Kd.R_slice HO471.out
        (first|subst eo198|(injection eo198 with f1_ f2_ f3_;have f4_:=f1_.symm;have f5_:=f3_.symm;clear f1_ f2_ f3_;subst f4_;subst f5_))
        refine hK.out _ _ ⟨(blk_cell BK456.out 0).trans rfl,(blk_cell BK456.out 1).trans rfl,(blk_cell BK433.out 0).trans rfl,(blk_cell BK433.out 1).trans rfl⟩ (fun hHeld => ?_)
        clear hK K
        refine norm_ (a':=?_) ?_ ?_
        rotate_left
        ·show Act.put _ (some 65) _ = _
         simp only [Act.put,List.setIfInBounds_toArray,List.set_cons_zero,List.set_cons_succ,i64_w,i32_w]
         rfl
        refine one_ (i:=3) (N:=some 66) #[true,true,true,true,false] rfl rfl (by kernel_rfl) (by decide) (fun K hK => ?_)
        refine goes_ Tryd.func23 (by kernel_rfl) rfl #[.agg #[.int .i64 t452,.slice Ao41 t453.length co41],.agg #[.int .i64 t468,.slice Ao198 t469.length co198]] (by rfl) rfl rfl (by (try simp only [List.map_toArray,List.map_cons,List.map_nil]);first|done|rfl|(simp only [List.length_drop,List.length_take];rfl)) ?_
        with_reducible refine (laws_eqNursery.calls kj17 t452 _ _ t453 t468 _ _ t469 false _ ?side1 ?side2 ?side3 ?side4 A73.out).mono ?_
        (case side1 => repeat (first|exact (Kd.R_reads' HO_457001.out).2.2|(with_reducible first|refine Kd.C_alloc ?_ _|refine Kd.C_drewN ?_ _|refine Kd.C_drew ?_)))
        (case side2 => exact (Kd.R_reads' HO_457001.out).2.1)
        (case side3 => repeat (first|exact (Kd.R_reads' HO471.out).2.2|(with_reducible first|refine Kd.C_alloc ?_ _|refine Kd.C_drewN ?_ _|refine Kd.C_drew ?_)))
        (case side4 => exact (Kd.R_reads' HO471.out).2.1)
        rintro e w199 ⟨rfl,hb⟩
        refine ⟨_,rfl,?_⟩
        have n0_:=am (Kd.R_below (kup HO_10.out) hb)
        have n1_:=am (Kd.R_below (kup HO_449001.out) hb)
        have n2_:=am (Kd.R_below (kup HO_457001.out) hb)
        have n3_:=am (Kd.R_below (kup HO_463001.out) hb)
        have n4_:=am (Kd.R_below (kup HO466.out) hb)
        have n5_:=am (Kd.R_below (kup HO471.out) hb)
        have n6_:=am (blk_below (bup BK433.out) hb)
        have n7_:=am (blk_below (bup BK448.out) hb)
        have n8_:=am (blk_below (bup BK456.out) hb)
        have n9_:=am (blk_below (bup BK462.out) hb)
        have n10_:=am (below_step (lup HB.out) hb)
        clear HO_10
        clear HO_449001
        clear HO_457001
        clear HO_463001
        clear HO466
        clear HO471
        clear BK433
        clear BK448
        clear BK456
        clear BK462
        clear HB
        have HO_10:=n0_
        have HO_449001:=n1_
        have HO_457001:=n2_
        have HO_463001:=n3_
        have HO466:=n4_
        have HO471:=n5_
        have BK433:=n6_
        have BK448:=n7_
        have BK456:=n8_
        have BK462:=n9_
        have HB:=n10_
        clear n0_ n1_ n2_ n3_ n4_ n5_ n6_ n7_ n8_ n9_ n10_
        (try clear hb)
        (try clear hb2)
        (try clear hk)
        (try clear hi)
        refine hK.out _ _ ⟨(blk_cell BK456.out 0).trans rfl,(blk_cell BK456.out 1).trans rfl,(blk_cell BK433.out 0).trans rfl,(blk_cell BK433.out 1).trans rfl⟩ (fun hHeld => ?_)
        clear hK K
        refine norm_ (a':=?_) ?_ ?_
        rotate_left
        ·show Act.put _ (some 66) _ = _
         simp only [Act.put,List.setIfInBounds_toArray,List.set_cons_zero,List.set_cons_succ,i64_w,i32_w]
         rfl
        refine pure_ (i:=4) (N:=some 67) (v:=?_) (a':=?_) #[true,true,true,true,true] rfl rfl (by kernel_rfl) (fun _ _ _ h => h) (Or.inl ⟨by rfl,?_⟩) ?_ ?_
        rotate_left
        ·intro w'
         go_simp
         with_reducible rfl
        rotate_left
        ·simp only [Act.put,List.setIfInBounds_toArray,List.set_cons_zero,List.set_cons_succ,i64_w,i32_w]
         rfl
        refine done_ (by kernel_rfl) ?_
        try go_wp2
        go_ret
        exact ⟨by first|rfl|(simp [errW_none,errW_some] <;> rfl)|(simp [*,errW_none,errW_some] <;> rfl),by repeat (first|(with_reducible first|exact HB.out|apply below_alloc|apply pw_below_drewN|apply below_drew1|refine below_set ?_ GE433.out|refine below_set ?_ GE448.out|refine below_set ?_ GE456.out|refine below_set ?_ GE462.out)|exact HB.out)⟩
      ·replace c71:=Bool.eq_false_iff.mpr c71
       subst c71
       have H1 : (some false) = some r:=by rw [if_neg (show ¬ (false = true) by decide)] at H;exact H
       clear H
       have H:=H1
       clear H1
       obtain rfl:=Option.some.inj H
       go_wp2_with (first|((with_reducible refine gate_callee (f:=19) rfl ?_);refine goesL_ (some 60) rfl rfl Tryd.func19 (by kernel_rfl) rfl #[.slice A0 l0.length c0] rfl (by (try simp only [List.map_toArray,List.map_cons,List.map_nil]);first|done|rfl|(simp only [List.length_drop,List.length_take];rfl)) ?_;(with_reducible refine (laws_toStringS.calls kj17 _ _ l0 t464 _ ?side1 ?side2 A69.out).mono ?_);(case side1 => repeat (first|exact (Kd.C_below HR0.out HB.out)|(with_reducible first|refine Kd.C_alloc ?_ _|refine Kd.C_drewN ?_ _|refine Kd.C_drew ?_)));(case side2 => exact HC0.out);rintro e w200 ⟨v465,rfl,ho0,hb⟩;refine ⟨_,rfl,?_⟩;have n0_:=am (Kd.R_elder' (kup HO_10.out) (Kd.R_base ho0) hb);have n1_:=am (Kd.R_below (kup HO_449001.out) hb);have n2_:=am (Kd.R_below (kup HO_457001.out) hb);have n3_:=am (Kd.R_below (kup HO_463001.out) hb);have n4_:=am (Kd.R_lower (Kd.R_new' ho0 (Kd.R_lt (kup HO_10.out))) (below_size (lup HB.out)));have n5_:=am (blk_below (bup BK433.out) hb);have n6_:=am (blk_below (bup BK448.out) hb);have n7_:=am (blk_below (bup BK456.out) hb);have n8_:=am (blk_below (bup BK462.out) hb);have n9_:=am (below_step (lup HB.out) hb);clear HO_10 HO_449001 HO_457001 HO_463001 BK433 BK448 BK456 BK462 HB;have HO_10:=n0_;have HO_449001:=n1_;have HO_457001:=n2_;have HO_463001:=n3_;have HO466:=n4_;have BK433:=n5_;have BK448:=n6_;have BK456:=n7_;have BK462:=n8_;have HB:=n9_;clear n0_ n1_ n2_ n3_ n4_ n5_ n6_ n7_ n8_ n9_;(try clear hb);(try clear hb2);(try clear hk);(try clear hi);(try clear ho0);obtain ⟨Ao201,co201,eo201⟩:=Kd.R_slice HO466.out;subst eo201)|((with_reducible refine gate_callee (f:=22) rfl ?_);refine goesL_ (some 61) rfl rfl Tryd.func22 (by kernel_rfl) rfl #[.slice Ao42 t449.length co42,.slice Ao201 t464.length co201] rfl (by (try simp only [List.map_toArray,List.map_cons,List.map_nil]);first|done|rfl|(simp only [List.length_drop,List.length_take];rfl)) ?_;(with_reducible refine (laws_eqStringS.calls kj17 _ _ t449 _ _ t464 false _ ?side1 ?side2 ?side3 ?side4 A70.out).mono ?_);(case side1 => repeat (first|exact (Kd.R_reads' HO_10.out).2.2|(with_reducible first|refine Kd.C_alloc ?_ _|refine Kd.C_drewN ?_ _|refine Kd.C_drew ?_)));(case side2 => exact (Kd.R_reads' HO_10.out).2.1);(case side3 => repeat (first|exact (Kd.R_reads' HO466.out).2.2|(with_reducible first|refine Kd.C_alloc ?_ _|refine Kd.C_drewN ?_ _|refine Kd.C_drew ?_)));(case side4 => exact (Kd.R_reads' HO466.out).2.1);rintro e w' ⟨rfl,⟨nd,rfl⟩⟩;refine ⟨_,rfl,?_⟩))
       go_ret
       exact ⟨by first|rfl|(simp [errW_none,errW_some] <;> rfl)|(simp [*,errW_none,errW_some] <;> rfl),by repeat (first|(with_reducible first|exact HB.out|apply below_alloc|apply pw_below_drewN|apply below_drew1|refine below_set ?_ GE433.out|refine below_set ?_ GE448.out|refine below_set ?_ GE456.out|refine below_set ?_ GE462.out)|exact HB.out)⟩

end Go.Proofs.YtgfeafcgpeclcaaDoor.X
