/- Texts of this claim. (Merged out of this claim's own texts.) -/
import Derived.Test.YtgfeafcgpeclcaaDoorBFnExactYoungAlloc5
namespace Go.Proofs.YtgfeafcgpeclcaaDoor.X
open Go.RowKit Go.Proofs.YtgfeafcgpeclcaaDoorW.PrintWords Go.Proofs.YtgfeafcgpeclcaaDoorW.PrintLast Go.Proofs.YtgfeafcgpeclcaaDoorW.PrintMore
attribute [local go_sem] max2_int min2_int max_two min_two max_three min_three max_four min_four   -- for this text's walks alone
set_option linter.unusedVariables false
set_option linter.unusedSimpArgs false

set_option maxHeartbeats 8000000 in
set_option maxRecDepth 100000 in
theorem laws_FnExactYoungAlloc.calls (k : Nat) (A0 : Option Addr) (c0 : Nat) (l0 : List ByteArray) (a1_0 : Int) (A1_1 : Option Addr) (c1_1 : Nat) (l1_1 : List Int) (a2 : Int) (r : Bool) (w : World) (hr0 : Kd.C Kd.string w A0 l0.length l0) (hc0 : l0.length ≤ c0) (hr1_1 : Kd.C (Kd.int .i64) w A1_1 l1_1.length l1_1) (hc1_1 : l1_1.length ≤ c1_1) (h : laws_FnExactYoungAlloc.f k l0 a1_0 l1_1 a2 = some r) :
  Calls Tryd.prog 7 #[.slice A0 l0.length c0,.agg #[.int .i64 a1_0,.slice A1_1 l1_1.length c1_1],.int .i64 a2] w fun e w' => e = .returned (.bool r)∧Below w.heap.size w w':=by
 have hu25:=Tryd.underlying25
 have hu30:=Tryd.underlying30
 have HR0:=am hr0
 have HC0:=am hc0
 clear hr0 hc0
 have HR1_1:=am hr1_1
 have HC1_1:=am hc1_1
 clear hr1_1 hc1_1
 have HB:=am (Below.refl w.heap.size w)
 have H : ((laws_szStringS.f k l0 1048576).bind fun t551 => (if t551 < 0 then (some true) else ((laws_szNursery.f a1_0 l1_1 t551).bind fun t552 => (if t552 < 0 then (some true) else ((laws_toStringS.f k l0).bind fun t553 => ((laws_toNursery.f k a1_0 l1_1).bind fun bt556 => ((spec_YoungAlloc.f k t553 bt556.1 bt556.2 a2).bind fun bt560 => ((laws_toStringS.f k l0).bind fun t567 => ((laws_toNursery.f k a1_0 l1_1).bind fun bt570 => ((impl_YoungAlloc.f k t567 bt570.1 bt570.2 a2).bind fun bt575 => ((laws_eqNursery.f k bt575.1 bt575.2.1 bt560.1 bt560.2.1).bind fun t582 => (if t582 = true then (if bt575.2.2.1 = bt560.2.2.1 then (laws_FnExactYoungAlloc.j0 k l0 a2 bt560.2.2.1 bt560.2.2.2 t567 bt575.2.2.1 bt575.2.2.2 (bt575.2.2.2 != bt560.2.2.2) a1_0 l1_1 bt560.1 bt560.2.1 bt570.1 bt570.2 bt575.1 bt575.2.1) else (laws_FnExactYoungAlloc.j0 k l0 a2 bt560.2.2.1 bt560.2.2.2 t567 bt575.2.2.1 bt575.2.2.2 true a1_0 l1_1 bt560.1 bt560.2.1 bt570.1 bt570.2 bt575.1 bt575.2.1)) else (laws_FnExactYoungAlloc.j0 k l0 a2 bt560.2.2.1 bt560.2.2.2 t567 bt575.2.2.1 bt575.2.2.2 true a1_0 l1_1 bt560.1 bt560.2.1 bt570.1 bt570.2 bt575.1 bt575.2.1))))))))))))) = some r:=h
 clear h
 replace H:=Option.bind_eq_some_iff.mp H
 obtain ⟨t551,A40,H⟩:=H
 try dsimp only at H
 have A4:=am A40
 clear A40
 by_cases c5 : t551 < 0
 ·rw [if_pos c5] at H
  have c5b0 : decide (t551 < 0) = true:=decide_eq_true c5
  clear c5
  obtain rfl:=Option.some.inj H
  go_enter Tryd.func7,Tryd.ntmps7
  go_wp2_with (first|((with_reducible refine gate_dst (N:=4) rfl ?_);refine box_event ?hg (N:=4) ?hd (cs:=#[.int .i64 a1_0,.slice A1_1 l1_1.length c1_1]) (t:=25) ?hr ?_;(case hd => rfl);(case hg => rfl);(case hr => first|(go_simp;done)|(go_simp;rfl));intro gb550 hg w6 hbox hb;have n0_:=am (below_step (lup HB.out) hb);have n1_:=am (hbox);have n2_:=am ((by rw [hg];exact (below_size (lup HB.out)) : w.heap.size ≤ gb550));have n3_:=am ((by rw [hg];exact (below_size (lup HB.out)) : w.heap.size ≤ gb550));clear HB;have HB:=n0_;have BK550:=n1_;have GW550:=n2_;have GE550:=n3_;clear n0_ n1_ n2_ n3_;clear hb hbox hg)|((with_reducible refine gate_callee (f:=16) rfl ?_);refine goesL_ (some 24) rfl rfl Tryd.func16 (by kernel_rfl) rfl #[.slice A0 l0.length c0,.int .i64 1048576] rfl (by (try simp only [List.map_toArray,List.map_cons,List.map_nil]);first|done|rfl|(simp only [List.length_drop,List.length_take];rfl)) ?_;(with_reducible refine (laws_szStringS.calls k _ _ l0 1048576 t551 _ ?side1 ?side2 A4.out).mono ?_);(case side1 => repeat (first|exact (Kd.C_below HR0.out HB.out)|(with_reducible first|refine Kd.C_alloc ?_ _|refine Kd.C_drewN ?_ _|refine Kd.C_drew ?_)));(case side2 => exact HC0.out);rintro e w' ⟨rfl,⟨nd,rfl⟩⟩;refine ⟨_,rfl,?_⟩))
  go_ret
  exact ⟨by first|rfl|(simp [errW_none,errW_some] <;> rfl)|(simp [*,errW_none,errW_some] <;> rfl),by repeat (first|(with_reducible first|exact HB.out|apply below_alloc|apply pw_below_drewN|apply below_drew1|refine below_set ?_ GE550.out)|exact HB.out)⟩
 ·rw [if_neg c5] at H
  have c5b0 : decide (t551 < 0) = false:=decide_eq_false c5
  clear c5
  replace H:=Option.bind_eq_some_iff.mp H
  obtain ⟨t552,A70,H⟩:=H
  try dsimp only at H
  have A7:=am A70
  clear A70
  by_cases c8 : t552 < 0
  ·rw [if_pos c8] at H
   have c8b0 : decide (t552 < 0) = true:=decide_eq_true c8
   clear c8
   obtain rfl:=Option.some.inj H
   go_enter Tryd.func7,Tryd.ntmps7
   go_wp2_with (first|((with_reducible refine gate_dst (N:=4) rfl ?_);refine box_event ?hg (N:=4) ?hd (cs:=#[.int .i64 a1_0,.slice A1_1 l1_1.length c1_1]) (t:=25) ?hr ?_;(case hd => rfl);(case hg => rfl);(case hr => first|(go_simp;done)|(go_simp;rfl));intro gb550 hg w9 hbox hb;have n0_:=am (below_step (lup HB.out) hb);have n1_:=am (hbox);have n2_:=am ((by rw [hg];exact (below_size (lup HB.out)) : w.heap.size ≤ gb550));have n3_:=am ((by rw [hg];exact (below_size (lup HB.out)) : w.heap.size ≤ gb550));clear HB;have HB:=n0_;have BK550:=n1_;have GW550:=n2_;have GE550:=n3_;clear n0_ n1_ n2_ n3_;clear hb hbox hg)|((with_reducible refine gate_callee (f:=16) rfl ?_);refine goesL_ (some 24) rfl rfl Tryd.func16 (by kernel_rfl) rfl #[.slice A0 l0.length c0,.int .i64 1048576] rfl (by (try simp only [List.map_toArray,List.map_cons,List.map_nil]);first|done|rfl|(simp only [List.length_drop,List.length_take];rfl)) ?_;(with_reducible refine (laws_szStringS.calls k _ _ l0 1048576 t551 _ ?side1 ?side2 A4.out).mono ?_);(case side1 => repeat (first|exact (Kd.C_below HR0.out HB.out)|(with_reducible first|refine Kd.C_alloc ?_ _|refine Kd.C_drewN ?_ _|refine Kd.C_drew ?_)));(case side2 => exact HC0.out);rintro e w' ⟨rfl,⟨nd,rfl⟩⟩;refine ⟨_,rfl,?_⟩;have hcz10_0 : w9.cell? ⟨gb550,0,none⟩ = some (.int .i64 a1_0):=(blk_cell BK550.out 0).trans rfl;have hcz10_1 : w9.cell? ⟨gb550,1,none⟩ = some (.slice A1_1 l1_1.length c1_1):=(blk_cell BK550.out 1).trans rfl;have hfz10_0:=blk_frozen BK550.out 0;have hfz10_1:=blk_frozen BK550.out 1)|((with_reducible refine gate_callee (f:=17) rfl ?_);refine goesL_ (some 29) rfl rfl Tryd.func17 (by kernel_rfl) rfl #[.agg #[.int .i64 a1_0,.slice A1_1 l1_1.length c1_1],.int .i64 t551] rfl (by (try simp only [List.map_toArray,List.map_cons,List.map_nil]);first|done|rfl|(simp only [List.length_drop,List.length_take];rfl)) ?_;(with_reducible refine (laws_szNursery.calls a1_0 _ _ l1_1 t551 t552 _ ?side1 ?side2 A7.out).mono ?_);(case side1 => repeat (first|exact (Kd.C_below HR1_1.out (lup HB.out))|(with_reducible first|refine Kd.C_alloc ?_ _|refine Kd.C_drewN ?_ _|refine Kd.C_drew ?_)));(case side2 => exact HC1_1.out);rintro e w11 ⟨rfl,hb⟩;refine ⟨_,rfl,?_⟩;have n0_:=am (blk_below (bup BK550.out) hb);have n1_:=am (below_step (lup HB.out) hb);clear BK550 HB;have BK550:=n0_;have HB:=n1_;clear n0_ n1_;(try clear hb);(try clear hb2);(try clear hk);(try clear hi)))
   go_ret
   exact ⟨by first|rfl|(simp [errW_none,errW_some] <;> rfl)|(simp [*,errW_none,errW_some] <;> rfl),by repeat (first|(with_reducible first|exact HB.out|apply below_alloc|apply pw_below_drewN|apply below_drew1|refine below_set ?_ GE550.out)|exact HB.out)⟩
  ·rw [if_neg c8] at H
   have c8b0 : decide (t552 < 0) = false:=decide_eq_false c8
   clear c8
   replace H:=Option.bind_eq_some_iff.mp H
   obtain ⟨t553,A120,H⟩:=H
   try dsimp only at H
   have A12:=am A120
   clear A120
   replace H:=Option.bind_eq_some_iff.mp H
   obtain ⟨⟨t556,t557⟩,A130,H⟩:=H
   try dsimp only at H
   have A13:=am A130
   clear A130
   replace H:=Option.bind_eq_some_iff.mp H
   obtain ⟨⟨t560,t561,t564,t565⟩,A140,H⟩:=H
   try dsimp only at H
   have A14:=am A140
   clear A140
   replace H:=Option.bind_eq_some_iff.mp H
   obtain ⟨t567,A150,H⟩:=H
   try dsimp only at H
   have A15:=am A150
   clear A150
   replace H:=Option.bind_eq_some_iff.mp H
   obtain ⟨⟨t570,t571⟩,A160,H⟩:=H
   try dsimp only at H
   have A16:=am A160
   clear A160
   replace H:=Option.bind_eq_some_iff.mp H
   obtain ⟨⟨t575,t576,t579,t580⟩,A170,H⟩:=H
   try dsimp only at H
   have A17:=am A170
   clear A170
   have HC18:=am H
   clear H
   go_enter Tryd.func7,Tryd.ntmps7
   try go_wp2_with (first|((with_reducible refine gate_dst (N:=4) rfl ?_);refine box_event ?hg (N:=4) ?hd (cs:=#[.int .i64 a1_0,.slice A1_1 l1_1.length c1_1]) (t:=25) ?hr ?_;(case hd => rfl);(case hg => rfl);(case hr => first|(go_simp;done)|(go_simp;rfl));intro gb550 hg w19 hbox hb;have n0_:=am (below_step (lup HB.out) hb);have n1_:=am (hbox);have n2_:=am ((by rw [hg];exact (below_size (lup HB.out)) : w.heap.size ≤ gb550));have n3_:=am ((by rw [hg];exact (below_size (lup HB.out)) : w.heap.size ≤ gb550));clear HB;have HB:=n0_;have BK550:=n1_;have GW550:=n2_;have GE550:=n3_;clear n0_ n1_ n2_ n3_;clear hb hbox hg)|((with_reducible refine gate_callee (f:=16) rfl ?_);refine goesL_ (some 24) rfl rfl Tryd.func16 (by kernel_rfl) rfl #[.slice A0 l0.length c0,.int .i64 1048576] rfl (by (try simp only [List.map_toArray,List.map_cons,List.map_nil]);first|done|rfl|(simp only [List.length_drop,List.length_take];rfl)) ?_;(with_reducible refine (laws_szStringS.calls k _ _ l0 1048576 t551 _ ?side1 ?side2 A4.out).mono ?_);(case side1 => repeat (first|exact (Kd.C_below HR0.out HB.out)|(with_reducible first|refine Kd.C_alloc ?_ _|refine Kd.C_drewN ?_ _|refine Kd.C_drew ?_)));(case side2 => exact HC0.out);rintro e w' ⟨rfl,⟨nd,rfl⟩⟩;refine ⟨_,rfl,?_⟩;(try (rw [drewN_self w19];generalize hq_ : World.drewN w19 _ = w19;have n0_ : Aside0 (w19.heap[gb550]? = some (.cells #[.int .i64 a1_0,.slice A1_1 l1_1.length c1_1] 25 (0,0))):=⟨by rw [← hq_];exact (bup BK550.out)⟩;have n1_ : Aside0 (Below w.heap.size w w19):=⟨by rw [← hq_];exact (lup HB.out)⟩;clear BK550 HB hq_;have BK550:=n0_;have HB:=n1_;clear n0_ n1_));have hcz20_0 : w19.cell? ⟨gb550,0,none⟩ = some (.int .i64 a1_0):=(blk_cell BK550.out 0).trans rfl;have hcz20_1 : w19.cell? ⟨gb550,1,none⟩ = some (.slice A1_1 l1_1.length c1_1):=(blk_cell BK550.out 1).trans rfl;have hfz20_0:=blk_frozen BK550.out 0;have hfz20_1:=blk_frozen BK550.out 1)|((with_reducible refine gate_callee (f:=17) rfl ?_);refine goesL_ (some 29) rfl rfl Tryd.func17 (by kernel_rfl) rfl #[.agg #[.int .i64 a1_0,.slice A1_1 l1_1.length c1_1],.int .i64 t551] rfl (by (try simp only [List.map_toArray,List.map_cons,List.map_nil]);first|done|rfl|(simp only [List.length_drop,List.length_take];rfl)) ?_;(with_reducible refine (laws_szNursery.calls a1_0 _ _ l1_1 t551 t552 _ ?side1 ?side2 A7.out).mono ?_);(case side1 => repeat (first|exact (Kd.C_below HR1_1.out HB.out)|(with_reducible first|refine Kd.C_alloc ?_ _|refine Kd.C_drewN ?_ _|refine Kd.C_drew ?_)));(case side2 => exact HC1_1.out);rintro e w21 ⟨rfl,hb⟩;refine ⟨_,rfl,?_⟩;have n0_:=am (blk_below (bup BK550.out) hb);have n1_:=am (below_step (lup HB.out) hb);clear BK550 HB;have BK550:=n0_;have HB:=n1_;clear n0_ n1_;(try clear hb);(try clear hb2);(try clear hk);(try clear hi)))
   have n0_:=am (blk_drew BK550.out)
   have n1_:=am (below_drew1 HB.out)
   clear BK550
   clear HB
   have BK550:=n0_
   have HB:=n1_
   clear n0_ n1_
   refine start_ (n:=14) (S:=fun w' => w'.cell? ⟨gb550,0,none⟩ = some (.int .i64 a1_0)∧w'.cell? ⟨gb550,1,none⟩ = some (.slice A1_1 l1_1.length c1_1)) (ds:=[]) #[false,false,false,false,false,false,false,false,false,false,false,false,false,false] (by kernel_rfl) rfl rfl ⟨(blk_cell BK550.out 0).trans rfl,(blk_cell BK550.out 1).trans rfl⟩ (fun hHeld => ?_);refine with_tabW laws_FnExactYoungAlloc.tab8 laws_FnExactYoungAlloc.bits8 (fun HT_ HW_ => ?_)
   generalize w21.drew = w22 at BK550 HB hHeld ⊢
   refine pure_ (i:=0) (N:=some 33) (v:=?_) (a':=?_) #[true,false,false,false,false,false,false,false,false,false,false,false,false,false] rfl rfl (any_of HT_.out (by kernel_rfl)) (fun _ _ _ h => h) (Or.inl ⟨by rfl,?_⟩) ?_ ?_
   rotate_left
   ·intro w'
    go_simp
    with_reducible rfl
   rotate_left
   ·simp only [Act.put,List.setIfInBounds_toArray,List.set_cons_zero,List.set_cons_succ,i64_w,i32_w]
    rfl
   refine pure_ (i:=4) (N:=some 37) (v:=?_) (a':=?_) #[true,false,false,false,true,false,false,false,false,false,false,false,false,false] rfl rfl (any_of HT_.out (by kernel_rfl)) (fun _ _ _ h => h) (Or.inl ⟨by rfl,?_⟩) ?_ ?_
   rotate_left
   ·intro w'
    go_simp
    with_reducible rfl
   rotate_left
   ·simp only [Act.put,List.setIfInBounds_toArray,List.set_cons_zero,List.set_cons_succ,i64_w,i32_w]
    rfl
   refine take_ (i:=2) (N:=some 35) (v:=?_) (a':=?_) #[true,false,true,false,true,false,false,false,false,false,false,false,false,false] rfl rfl (take_ofW HT_.out HW_.out (by kernel_rfl)) (fun _ _ _ h => h) (Or.inl ⟨by rfl,?_⟩) hHeld ?_ ?_
   rotate_left
   ·rintro w' ⟨s0,s1⟩
    go_simp
    with_reducible rfl
   rotate_left
   ·simp only [Act.put,List.setIfInBounds_toArray,List.set_cons_zero,List.set_cons_succ,i64_w,i32_w]
    rfl
   refine join_ (σ:=Value × Value × Value × Nat) 3 #[true,true,true,true,true,true,true,true,true,true,true,false,false,false] (fun s_ => [(34,s_.1),(36,.agg #[.int .i64 t556,s_.2.1]),(38,.tuple #[.agg #[.int .i64 t560,s_.2.2.1],.int .i64 t564,.int .i64 t565]),(8,.pointer (some ⟨s_.2.2.2,0,none⟩)),(32,.tuple #[.agg #[.int .i64 t560,s_.2.2.1],.int .i64 t564,.int .i64 t565]),(39,.agg #[.int .i64 t560,s_.2.2.1]),(40,.int .i64 t564),(41,.int .i64 t565)]) (fun s_ w' => (w'.cell? ⟨gb550,0,none⟩ = some (.int .i64 a1_0)∧w'.cell? ⟨gb550,1,none⟩ = some (.slice A1_1 l1_1.length c1_1))∧(Kd.R Kd.string 9 w' w.heap.size (fun _ => True) s_.1 t553)∧(Kd.R (Kd.int .i64) 2 w' w.heap.size (fun k_ => some k_≠(s_.2.2.1 : Value).ownBlock) s_.2.1 t557)∧(Kd.R (Kd.int .i64) 2 w' w.heap.size (fun k_ => some k_≠(s_.2.1 : Value).ownBlock) s_.2.2.1 t561)∧(w'.heap[gb550]? = some (.cells #[.int .i64 a1_0,.slice A1_1 l1_1.length c1_1] 25 (0,0)))∧(w'.heap[s_.2.2.2]? = some (.cells #[.int .i64 0,.slice none 0 0] 30 (0,0)))∧(w.heap.size ≤ s_.2.2.2)∧(w.heap.size ≤ s_.2.2.2)∧(gb550≠s_.2.2.2)∧(s_.2.2.2≠gb550)∧(Below w.heap.size w w')) ?_ ?_
   rotate_left
   ·intro hCont
    refine two_ (i:=1) (j:=10) (Ni:=some 34) (Nj:=some 8) #[true,true,true,false,true,false,false,false,false,false,false,false,false,false] #[true,false,true,false,true,false,false,false,false,false,true,false,false,false] rfl rfl rfl rfl (two_of HT_.out (by kernel_rfl)) (by decide) (by decide) (fun K hK => ?_) (fun K hK => ?_)
    ·skip
     refine goes_ Tryd.func19 (by kernel_rfl) rfl #[.slice A0 l0.length c0] (by rfl) rfl rfl (by (try simp only [List.map_toArray,List.map_cons,List.map_nil]);first|done|rfl|(simp only [List.length_drop,List.length_take];rfl)) ?_
     with_reducible refine (laws_toStringS.calls k _ _ l0 t553 _ ?side1 ?side2 A12.out).mono ?_
     (case side1 => repeat (first|exact (Kd.C_below HR0.out HB.out)|(with_reducible first|refine Kd.C_alloc ?_ _|refine Kd.C_drewN ?_ _|refine Kd.C_drew ?_)))
     (case side2 => exact HC0.out)
     rintro e w23 ⟨v554,rfl,ho0,hb⟩
     refine ⟨_,rfl,?_⟩
     have n0_:=am (Kd.R_lower ho0 (below_size (lup HB.out)))
     have n1_:=am (blk_below (bup BK550.out) hb)
     have n2_:=am (below_step (lup HB.out) hb)
     clear BK550
     clear HB
     have HO555:=n0_
     have BK550:=n1_
     have HB:=n2_
     clear n0_ n1_ n2_
     (try clear hb)
     (try clear hb2)
     (try clear hk)
     (try clear hi)
     (try clear ho0)
     refine hK.out _ _ ⟨(blk_cell BK550.out 0).trans rfl,(blk_cell BK550.out 1).trans rfl⟩ (fun hHeld => ?_)
     clear hK K
     refine norm_ (a':=?_) ?_ ?_
     rotate_left
     ·show Act.put _ (some 34) _ = _
      simp only [Act.put,List.setIfInBounds_toArray,List.set_cons_zero,List.set_cons_succ,i64_w,i32_w]
      rfl
     refine two_ (i:=3) (j:=10) (Ni:=some 36) (Nj:=some 8) #[true,true,true,true,true,false,false,false,false,false,false,false,false,false] #[true,true,true,false,true,false,false,false,false,false,true,false,false,false] rfl rfl rfl rfl (two_of HT_.out (by kernel_rfl)) (by decide) (by decide) (fun K hK => ?_) (fun K hK => ?_)
     ·skip
      refine goes_ Tryd.func20 (by kernel_rfl) rfl #[.agg #[.int .i64 a1_0,.slice A1_1 l1_1.length c1_1]] (by rfl) rfl rfl (by (try simp only [List.map_toArray,List.map_cons,List.map_nil]);first|done|rfl|(simp only [List.length_drop,List.length_take];rfl)) ?_
      with_reducible refine (laws_toNursery.calls k a1_0 _ _ l1_1 t556 t557 _ ?side1 ?side2 A13.out).mono ?_
      (case side1 => repeat (first|exact (Kd.C_below HR1_1.out HB.out)|(with_reducible first|refine Kd.C_alloc ?_ _|refine Kd.C_drewN ?_ _|refine Kd.C_drew ?_)))
      (case side2 => exact HC1_1.out)
      rintro e w24 ⟨v558,rfl,ho0,hb⟩
      refine ⟨_,rfl,?_⟩
      have n0_:=am (Kd.R_below (kup HO555.out) hb)
      have n1_:=am (Kd.R_lower ho0 (below_size (lup HB.out)))
      have n2_:=am (blk_below (bup BK550.out) hb)
      have n3_:=am (below_step (lup HB.out) hb)
      clear HO555
      clear BK550
      clear HB
      have HO555:=n0_
      have HO559:=n1_
      have BK550:=n2_
      have HB:=n3_
      clear n0_ n1_ n2_ n3_
      (try clear hb)
      (try clear hb2)
      (try clear hk)
      (try clear hi)
      (try clear ho0)
      obtain ⟨Ao25,co25,eo25⟩:=Kd.R_slice HO555.out
      (first|subst eo25|(injection eo25 with f1_ f2_ f3_;have f4_:=f1_.symm;have f5_:=f3_.symm;clear f1_ f2_ f3_;subst f4_;subst f5_))
      obtain ⟨Ao26,co26,eo26⟩:=Kd.R_slice HO559.out
      (first|subst eo26|(injection eo26 with f1_ f2_ f3_;have f4_:=f1_.symm;have f5_:=f3_.symm;clear f1_ f2_ f3_;subst f4_;subst f5_))
      refine hK.out _ _ ⟨(blk_cell BK550.out 0).trans rfl,(blk_cell BK550.out 1).trans rfl⟩ (fun hHeld => ?_)
      clear hK K
      refine norm_ (a':=?_) ?_ ?_
      rotate_left
      ·show Act.put _ (some 36) _ = _
       simp only [Act.put,List.setIfInBounds_toArray,List.set_cons_zero,List.set_cons_succ,i64_w,i32_w]
       rfl
      refine two_ (i:=5) (j:=10) (Ni:=some 38) (Nj:=some 8) #[true,true,true,true,true,true,false,false,false,false,false,false,false,false] #[true,true,true,true,true,false,false,false,false,false,true,false,false,false] rfl rfl rfl rfl (two_of HT_.out (by kernel_rfl)) (by decide) (by decide) (fun K hK => ?_) (fun K hK => ?_)
      ·skip
       refine goes_ Tryd.func38 (by kernel_rfl) rfl #[.slice Ao25 t553.length co25,.agg #[.int .i64 t556,.slice Ao26 t557.length co26],.int .i64 a2] (by rfl) rfl rfl (by (try simp only [List.map_toArray,List.map_cons,List.map_nil]);first|done|rfl|(simp only [List.length_drop,List.length_take];rfl)) ?_
       with_reducible refine (spec_YoungAlloc.calls k _ _ t553 t556 _ _ t557 a2 t560 t561 t564 t565 _ ?side1 ?side2 ?side3 ?side4 A14.out).mono ?_
       (case side1 => repeat (first|exact (Kd.R_reads' HO555.out).2.2|(with_reducible first|refine Kd.C_alloc ?_ _|refine Kd.C_drewN ?_ _|refine Kd.C_drew ?_)))
       (case side2 => exact (Kd.R_reads' HO555.out).2.1)
       (case side3 => repeat (first|exact (Kd.R_reads' HO559.out).2.2|(with_reducible first|refine Kd.C_alloc ?_ _|refine Kd.C_drewN ?_ _|refine Kd.C_drew ?_)))
       (case side4 => exact (Kd.R_reads' HO559.out).2.1)
       rintro e w27 ⟨v562,rfl,ho0,hb⟩
       refine ⟨_,rfl,?_⟩
       have n0_:=am (Kd.R_below (kup HO555.out) hb)
       have n1_:=am (Kd.R_elder' (kup HO559.out) (Kd.R_base ho0) hb)
       have n2_:=am (Kd.R_lower (Kd.R_new' ho0 (Kd.R_lt (kup HO559.out))) (below_size (lup HB.out)))
       have n3_:=am (blk_below (bup BK550.out) hb)
       have n4_:=am (below_step (lup HB.out) hb)
       clear HO555
       clear HO559
       clear BK550
       clear HB
       have HO555:=n0_
       have HO559:=n1_
       have HO563:=n2_
       have BK550:=n3_
       have HB:=n4_
       clear n0_ n1_ n2_ n3_ n4_
       (try clear hb)
       (try clear hb2)
       (try clear hk)
       (try clear hi)
       (try clear ho0)
       refine hK.out _ _ ⟨(blk_cell BK550.out 0).trans rfl,(blk_cell BK550.out 1).trans rfl⟩ (fun hHeld => ?_)
       clear hK K
       refine norm_ (a':=?_) ?_ ?_
       rotate_left
       ·show Act.put _ (some 38) _ = _
        simp only [Act.put,List.setIfInBounds_toArray,List.set_cons_zero,List.set_cons_succ,i64_w,i32_w]
        rfl
       refine pure_ (i:=6) (N:=some 32) (v:=?_) (a':=?_) #[true,true,true,true,true,true,true,false,false,false,false,false,false,false] rfl rfl (any_of HT_.out (by kernel_rfl)) (fun _ _ _ h => h) (Or.inl ⟨by rfl,?_⟩) ?_ ?_
       rotate_left
       ·intro w'
        go_simp
        with_reducible rfl
       rotate_left
       ·simp only [Act.put,List.setIfInBounds_toArray,List.set_cons_zero,List.set_cons_succ,i64_w,i32_w]
        rfl
       refine pure_ (i:=7) (N:=some 39) (v:=?_) (a':=?_) #[true,true,true,true,true,true,true,true,false,false,false,false,false,false] rfl rfl (any_of HT_.out (by kernel_rfl)) (fun _ _ _ h => h) (Or.inl ⟨by rfl,?_⟩) ?_ ?_
       rotate_left
       ·intro w'
        go_simp
        with_reducible rfl
       rotate_left
       ·simp only [Act.put,List.setIfInBounds_toArray,List.set_cons_zero,List.set_cons_succ,i64_w,i32_w]
        rfl
       refine pure_ (i:=8) (N:=some 40) (v:=?_) (a':=?_) #[true,true,true,true,true,true,true,true,true,false,false,false,false,false] rfl rfl (any_of HT_.out (by kernel_rfl)) (fun _ _ _ h => h) (Or.inl ⟨by rfl,?_⟩) ?_ ?_
       rotate_left
       ·intro w'
        go_simp
        with_reducible rfl
       rotate_left
       ·simp only [Act.put,List.setIfInBounds_toArray,List.set_cons_zero,List.set_cons_succ,i64_w,i32_w]
        rfl
       refine pure_ (i:=9) (N:=some 41) (v:=?_) (a':=?_) #[true,true,true,true,true,true,true,true,true,true,false,false,false,false] rfl rfl (any_of HT_.out (by kernel_rfl)) (fun _ _ _ h => h) (Or.inl ⟨by rfl,?_⟩) ?_ ?_
       rotate_left
       ·intro w'
        go_simp
        with_reducible rfl
       rotate_left
       ·simp only [Act.put,List.setIfInBounds_toArray,List.set_cons_zero,List.set_cons_succ,i64_w,i32_w]
        rfl
       refine one_ (i:=10) (N:=some 8) #[true,true,true,true,true,true,true,true,true,true,true,false,false,false] rfl rfl (one_of HT_.out (by kernel_rfl)) (by decide) (fun K hK => ?_)
       refine box_step ?hg (N:=8) ?hd (cs:=#[.int .i64 0,.slice none 0 0]) (t:=30) ?hr ?_;(case hd => rfl);(case hg => rfl);(case hr => first|(go_simp;done)|(go_simp;rfl))
       intro gb566 hg w28 hbox hb
       have n0_:=am (Kd.R_below (kup HO555.out) hb)
       have n1_:=am (Kd.R_below (kup HO559.out) hb)
       have n2_:=am (Kd.R_below (kup HO563.out) hb)
       have n3_:=am (blk_below (bup BK550.out) hb)
       have n4_:=am (below_step (lup HB.out) hb)
       have n5_:=am (hbox)
       have n6_:=am ((by rw [hg];exact (below_size (lup HB.out)) : w.heap.size ≤ gb566))
       have n7_:=am ((by rw [hg];exact (below_size (lup HB.out)) : w.heap.size ≤ gb566))
       have n8_:=am ((by rw [hg];exact Nat.ne_of_lt (blk_lt (bup BK550.out)) : gb550≠gb566))
       have n9_:=am ((by rw [hg];exact Nat.ne_of_gt (blk_lt (bup BK550.out)) : gb566≠gb550))
       clear HO555
       clear HO559
       clear HO563
       clear BK550
       clear HB
       have HO555:=n0_
       have HO559:=n1_
       have HO563:=n2_
       have BK550:=n3_
       have HB:=n4_
       have BK566:=n5_
       have GW566:=n6_
       have GE566:=n7_
       have NB550_566:=n8_
       have NB566_550:=n9_
       clear n0_ n1_ n2_ n3_ n4_ n5_ n6_ n7_ n8_ n9_
       clear hb hbox hg
       refine hK.out _ _ ⟨(blk_cell BK550.out 0).trans rfl,(blk_cell BK550.out 1).trans rfl⟩ (fun hHeld => ?_)
       clear hK K
       refine norm_ (a':=?_) ?_ ?_
       rotate_left
       ·show Act.put _ (some 8) _ = _
        simp only [Act.put,List.setIfInBounds_toArray,List.set_cons_zero,List.set_cons_succ,i64_w,i32_w]
        rfl
       exact norm_ (by simp only [putAll,Act.put,List.setIfInBounds_toArray,List.set_cons_zero,List.set_cons_succ]) (hCont (.slice Ao25 t553.length co25,.slice Ao26 t557.length co26,v562,gb566) _ ⟨hHeld,(kup HO555.out),(kup (Kd.R_mono HO559.out (fun _ hk => hk.2))),(kup (Kd.R_mono HO563.out (fun _ hk => hk.2))),(bup BK550.out),(bup BK566.out),GW566.out,GE566.out,NB550_566.out,NB566_550.out,(lup HB.out)⟩)
      ·skip
       refine box_step ?hg (N:=8) ?hd (cs:=#[.int .i64 0,.slice none 0 0]) (t:=30) ?hr ?_;(case hd => rfl);(case hg => rfl);(case hr => first|(go_simp;done)|(go_simp;rfl))
       intro gb566 hg w25 hbox hb
       have n0_:=am (Kd.R_below (kup HO555.out) hb)
       have n1_:=am (Kd.R_below (kup HO559.out) hb)
       have n2_:=am (blk_below (bup BK550.out) hb)
       have n3_:=am (below_step (lup HB.out) hb)
       have n4_:=am (hbox)
       have n5_:=am ((by rw [hg];exact (below_size (lup HB.out)) : w.heap.size ≤ gb566))
       have n6_:=am ((by rw [hg];exact (below_size (lup HB.out)) : w.heap.size ≤ gb566))
       have n7_:=am ((by rw [hg];exact Nat.ne_of_lt (blk_lt (bup BK550.out)) : gb550≠gb566))
       have n8_:=am ((by rw [hg];exact Nat.ne_of_gt (blk_lt (bup BK550.out)) : gb566≠gb550))
       clear HO555
       clear HO559
       clear BK550
       clear HB
       have HO555:=n0_
       have HO559:=n1_
       have BK550:=n2_
       have HB:=n3_
       have BK566:=n4_
       have GW566:=n5_
       have GE566:=n6_
       have NB550_566:=n7_
       have NB566_550:=n8_
       clear n0_ n1_ n2_ n3_ n4_ n5_ n6_ n7_ n8_
       clear hb hbox hg
       obtain ⟨Ao26,co26,eo26⟩:=Kd.R_slice HO555.out
       (first|subst eo26|(injection eo26 with f1_ f2_ f3_;have f4_:=f1_.symm;have f5_:=f3_.symm;clear f1_ f2_ f3_;subst f4_;subst f5_))
       obtain ⟨Ao27,co27,eo27⟩:=Kd.R_slice HO559.out
       (first|subst eo27|(injection eo27 with f1_ f2_ f3_;have f4_:=f1_.symm;have f5_:=f3_.symm;clear f1_ f2_ f3_;subst f4_;subst f5_))
       refine hK.out _ _ ⟨(blk_cell BK550.out 0).trans rfl,(blk_cell BK550.out 1).trans rfl⟩ (fun hHeld => ?_)
       clear hK K
       refine norm_ (a':=?_) ?_ ?_
       rotate_left
       ·show Act.put _ (some 8) _ = _
        simp only [Act.put,List.setIfInBounds_toArray,List.set_cons_zero,List.set_cons_succ,i64_w,i32_w]
        rfl
       refine one_ (i:=5) (N:=some 38) #[true,true,true,true,true,true,false,false,false,false,true,false,false,false] rfl rfl (one_of HT_.out (by kernel_rfl)) (by decide) (fun K hK => ?_)
       refine goes_ Tryd.func38 (by kernel_rfl) rfl #[.slice Ao26 t553.length co26,.agg #[.int .i64 t556,.slice Ao27 t557.length co27],.int .i64 a2] (by rfl) rfl rfl (by (try simp only [List.map_toArray,List.map_cons,List.map_nil]);first|done|rfl|(simp only [List.length_drop,List.length_take];rfl)) ?_
       with_reducible refine (spec_YoungAlloc.calls k _ _ t553 t556 _ _ t557 a2 t560 t561 t564 t565 _ ?side1 ?side2 ?side3 ?side4 A14.out).mono ?_
       (case side1 => repeat (first|exact (Kd.R_reads' HO555.out).2.2|(with_reducible first|refine Kd.C_alloc ?_ _|refine Kd.C_drewN ?_ _|refine Kd.C_drew ?_)))
       (case side2 => exact (Kd.R_reads' HO555.out).2.1)
       (case side3 => repeat (first|exact (Kd.R_reads' HO559.out).2.2|(with_reducible first|refine Kd.C_alloc ?_ _|refine Kd.C_drewN ?_ _|refine Kd.C_drew ?_)))
       (case side4 => exact (Kd.R_reads' HO559.out).2.1)
       rintro e w28 ⟨v562,rfl,ho0,hb⟩
       refine ⟨_,rfl,?_⟩
       have n0_:=am (Kd.R_below (kup HO555.out) hb)
       have n1_:=am (Kd.R_elder' (kup HO559.out) (Kd.R_base ho0) hb)
       have n2_:=am (Kd.R_lower (Kd.R_new' ho0 (Kd.R_lt (kup HO559.out))) (below_size (lup HB.out)))
       have n3_:=am (blk_below (bup BK550.out) hb)
       have n4_:=am (blk_below (bup BK566.out) hb)
       have n5_:=am (below_step (lup HB.out) hb)
       clear HO555
       clear HO559
       clear BK550
       clear BK566
       clear HB
       have HO555:=n0_
       have HO559:=n1_
       have HO563:=n2_
       have BK550:=n3_
       have BK566:=n4_
       have HB:=n5_
       clear n0_ n1_ n2_ n3_ n4_ n5_
       (try clear hb)
       (try clear hb2)
       (try clear hk)
       (try clear hi)
       (try clear ho0)
       refine hK.out _ _ ⟨(blk_cell BK550.out 0).trans rfl,(blk_cell BK550.out 1).trans rfl⟩ (fun hHeld => ?_)
       clear hK K
       refine norm_ (a':=?_) ?_ ?_
       rotate_left
       ·show Act.put _ (some 38) _ = _
        simp only [Act.put,List.setIfInBounds_toArray,List.set_cons_zero,List.set_cons_succ,i64_w,i32_w]
        rfl
       refine pure_ (i:=6) (N:=some 32) (v:=?_) (a':=?_) #[true,true,true,true,true,true,true,false,false,false,true,false,false,false] rfl rfl (any_of HT_.out (by kernel_rfl)) (fun _ _ _ h => h) (Or.inl ⟨by rfl,?_⟩) ?_ ?_
       rotate_left
       ·intro w'
        go_simp
        with_reducible rfl
       rotate_left
       ·simp only [Act.put,List.setIfInBounds_toArray,List.set_cons_zero,List.set_cons_succ,i64_w,i32_w]
        rfl
       refine pure_ (i:=7) (N:=some 39) (v:=?_) (a':=?_) #[true,true,true,true,true,true,true,true,false,false,true,false,false,false] rfl rfl (any_of HT_.out (by kernel_rfl)) (fun _ _ _ h => h) (Or.inl ⟨by rfl,?_⟩) ?_ ?_
       rotate_left
       ·intro w'
        go_simp
        with_reducible rfl
       rotate_left
       ·simp only [Act.put,List.setIfInBounds_toArray,List.set_cons_zero,List.set_cons_succ,i64_w,i32_w]
        rfl
       refine pure_ (i:=8) (N:=some 40) (v:=?_) (a':=?_) #[true,true,true,true,true,true,true,true,true,false,true,false,false,false] rfl rfl (any_of HT_.out (by kernel_rfl)) (fun _ _ _ h => h) (Or.inl ⟨by rfl,?_⟩) ?_ ?_
       rotate_left
       ·intro w'
        go_simp
        with_reducible rfl
       rotate_left
       ·simp only [Act.put,List.setIfInBounds_toArray,List.set_cons_zero,List.set_cons_succ,i64_w,i32_w]
        rfl
       refine pure_ (i:=9) (N:=some 41) (v:=?_) (a':=?_) #[true,true,true,true,true,true,true,true,true,true,true,false,false,false] rfl rfl (any_of HT_.out (by kernel_rfl)) (fun _ _ _ h => h) (Or.inl ⟨by rfl,?_⟩) ?_ ?_
       rotate_left
       ·intro w'
        go_simp
        with_reducible rfl
       rotate_left
       ·simp only [Act.put,List.setIfInBounds_toArray,List.set_cons_zero,List.set_cons_succ,i64_w,i32_w]
        rfl
       exact norm_ (by simp only [putAll,Act.put,List.setIfInBounds_toArray,List.set_cons_zero,List.set_cons_succ]) (hCont (.slice Ao26 t553.length co26,.slice Ao27 t557.length co27,v562,gb566) _ ⟨hHeld,(kup HO555.out),(kup (Kd.R_mono HO559.out (fun _ hk => hk.2))),(kup (Kd.R_mono HO563.out (fun _ hk => hk.2))),(bup BK550.out),(bup BK566.out),GW566.out,GE566.out,NB550_566.out,NB566_550.out,(lup HB.out)⟩)
     ·skip
      refine box_step ?hg (N:=8) ?hd (cs:=#[.int .i64 0,.slice none 0 0]) (t:=30) ?hr ?_;(case hd => rfl);(case hg => rfl);(case hr => first|(go_simp;done)|(go_simp;rfl))
      intro gb566 hg w24 hbox hb
      have n0_:=am (Kd.R_below (kup HO555.out) hb)
      have n1_:=am (blk_below (bup BK550.out) hb)
      have n2_:=am (below_step (lup HB.out) hb)
      have n3_:=am (hbox)
      have n4_:=am ((by rw [hg];exact (below_size (lup HB.out)) : w.heap.size ≤ gb566))
      have n5_:=am ((by rw [hg];exact (below_size (lup HB.out)) : w.heap.size ≤ gb566))
      have n6_:=am ((by rw [hg];exact Nat.ne_of_lt (blk_lt (bup BK550.out)) : gb550≠gb566))
      have n7_:=am ((by rw [hg];exact Nat.ne_of_gt (blk_lt (bup BK550.out)) : gb566≠gb550))
      clear HO555
      clear BK550
      clear HB
      have HO555:=n0_
      have BK550:=n1_
      have HB:=n2_
      have BK566:=n3_
      have GW566:=n4_
      have GE566:=n5_
      have NB550_566:=n6_
      have NB566_550:=n7_
      clear n0_ n1_ n2_ n3_ n4_ n5_ n6_ n7_
      clear hb hbox hg
      refine hK.out _ _ ⟨(blk_cell BK550.out 0).trans rfl,(blk_cell BK550.out 1).trans rfl⟩ (fun hHeld => ?_)
      clear hK K
      refine norm_ (a':=?_) ?_ ?_
      rotate_left
      ·show Act.put _ (some 8) _ = _
       simp only [Act.put,List.setIfInBounds_toArray,List.set_cons_zero,List.set_cons_succ,i64_w,i32_w]
       rfl
      refine one_ (i:=3) (N:=some 36) #[true,true,true,true,true,false,false,false,false,false,true,false,false,false] rfl rfl (one_of HT_.out (by kernel_rfl)) (by decide) (fun K hK => ?_)
      refine goes_ Tryd.func20 (by kernel_rfl) rfl #[.agg #[.int .i64 a1_0,.slice A1_1 l1_1.length c1_1]] (by rfl) rfl rfl (by (try simp only [List.map_toArray,List.map_cons,List.map_nil]);first|done|rfl|(simp only [List.length_drop,List.length_take];rfl)) ?_
      with_reducible refine (laws_toNursery.calls k a1_0 _ _ l1_1 t556 t557 _ ?side1 ?side2 A13.out).mono ?_
      (case side1 => repeat (first|exact (Kd.C_below HR1_1.out HB.out)|(with_reducible first|refine Kd.C_alloc ?_ _|refine Kd.C_drewN ?_ _|refine Kd.C_drew ?_)))
      (case side2 => exact HC1_1.out)
      rintro e w25 ⟨v558,rfl,ho0,hb⟩
      refine ⟨_,rfl,?_⟩
      have n0_:=am (Kd.R_below (kup HO555.out) hb)
      have n1_:=am (Kd.R_lower ho0 (below_size (lup HB.out)))
      have n2_:=am (blk_below (bup BK550.out) hb)
      have n3_:=am (blk_below (bup BK566.out) hb)
      have n4_:=am (below_step (lup HB.out) hb)
      clear HO555
      clear BK550
      clear BK566
      clear HB
      have HO555:=n0_
      have HO559:=n1_
      have BK550:=n2_
      have BK566:=n3_
      have HB:=n4_
      clear n0_ n1_ n2_ n3_ n4_
      (try clear hb)
      (try clear hb2)
      (try clear hk)
      (try clear hi)
      (try clear ho0)
      obtain ⟨Ao26,co26,eo26⟩:=Kd.R_slice HO555.out
      (first|subst eo26|(injection eo26 with f1_ f2_ f3_;have f4_:=f1_.symm;have f5_:=f3_.symm;clear f1_ f2_ f3_;subst f4_;subst f5_))
      obtain ⟨Ao27,co27,eo27⟩:=Kd.R_slice HO559.out
      (first|subst eo27|(injection eo27 with f1_ f2_ f3_;have f4_:=f1_.symm;have f5_:=f3_.symm;clear f1_ f2_ f3_;subst f4_;subst f5_))
      refine hK.out _ _ ⟨(blk_cell BK550.out 0).trans rfl,(blk_cell BK550.out 1).trans rfl⟩ (fun hHeld => ?_)
      clear hK K
      refine norm_ (a':=?_) ?_ ?_
      rotate_left
      ·show Act.put _ (some 36) _ = _
       simp only [Act.put,List.setIfInBounds_toArray,List.set_cons_zero,List.set_cons_succ,i64_w,i32_w]
       rfl
      refine one_ (i:=5) (N:=some 38) #[true,true,true,true,true,true,false,false,false,false,true,false,false,false] rfl rfl (one_of HT_.out (by kernel_rfl)) (by decide) (fun K hK => ?_)
      refine goes_ Tryd.func38 (by kernel_rfl) rfl #[.slice Ao26 t553.length co26,.agg #[.int .i64 t556,.slice Ao27 t557.length co27],.int .i64 a2] (by rfl) rfl rfl (by (try simp only [List.map_toArray,List.map_cons,List.map_nil]);first|done|rfl|(simp only [List.length_drop,List.length_take];rfl)) ?_
      with_reducible refine (spec_YoungAlloc.calls k _ _ t553 t556 _ _ t557 a2 t560 t561 t564 t565 _ ?side1 ?side2 ?side3 ?side4 A14.out).mono ?_
      (case side1 => repeat (first|exact (Kd.R_reads' HO555.out).2.2|(with_reducible first|refine Kd.C_alloc ?_ _|refine Kd.C_drewN ?_ _|refine Kd.C_drew ?_)))
      (case side2 => exact (Kd.R_reads' HO555.out).2.1)
      (case side3 => repeat (first|exact (Kd.R_reads' HO559.out).2.2|(with_reducible first|refine Kd.C_alloc ?_ _|refine Kd.C_drewN ?_ _|refine Kd.C_drew ?_)))
      (case side4 => exact (Kd.R_reads' HO559.out).2.1)
      rintro e w28 ⟨v562,rfl,ho0,hb⟩
      refine ⟨_,rfl,?_⟩
      have n0_:=am (Kd.R_below (kup HO555.out) hb)
      have n1_:=am (Kd.R_elder' (kup HO559.out) (Kd.R_base ho0) hb)
      have n2_:=am (Kd.R_lower (Kd.R_new' ho0 (Kd.R_lt (kup HO559.out))) (below_size (lup HB.out)))
      have n3_:=am (blk_below (bup BK550.out) hb)
      have n4_:=am (blk_below (bup BK566.out) hb)
      have n5_:=am (below_step (lup HB.out) hb)
      clear HO555
      clear HO559
      clear BK550
      clear BK566
      clear HB
      have HO555:=n0_
      have HO559:=n1_
      have HO563:=n2_
      have BK550:=n3_
      have BK566:=n4_
      have HB:=n5_
      clear n0_ n1_ n2_ n3_ n4_ n5_
      (try clear hb)
      (try clear hb2)
      (try clear hk)
      (try clear hi)
      (try clear ho0)
      refine hK.out _ _ ⟨(blk_cell BK550.out 0).trans rfl,(blk_cell BK550.out 1).trans rfl⟩ (fun hHeld => ?_)
      clear hK K
      refine norm_ (a':=?_) ?_ ?_
      rotate_left
      ·show Act.put _ (some 38) _ = _
       simp only [Act.put,List.setIfInBounds_toArray,List.set_cons_zero,List.set_cons_succ,i64_w,i32_w]
       rfl
      refine pure_ (i:=6) (N:=some 32) (v:=?_) (a':=?_) #[true,true,true,true,true,true,true,false,false,false,true,false,false,false] rfl rfl (any_of HT_.out (by kernel_rfl)) (fun _ _ _ h => h) (Or.inl ⟨by rfl,?_⟩) ?_ ?_
      rotate_left
      ·intro w'
       go_simp
       with_reducible rfl
      rotate_left
      ·simp only [Act.put,List.setIfInBounds_toArray,List.set_cons_zero,List.set_cons_succ,i64_w,i32_w]
       rfl
      refine pure_ (i:=7) (N:=some 39) (v:=?_) (a':=?_) #[true,true,true,true,true,true,true,true,false,false,true,false,false,false] rfl rfl (any_of HT_.out (by kernel_rfl)) (fun _ _ _ h => h) (Or.inl ⟨by rfl,?_⟩) ?_ ?_
      rotate_left
      ·intro w'
       go_simp
       with_reducible rfl
      rotate_left
      ·simp only [Act.put,List.setIfInBounds_toArray,List.set_cons_zero,List.set_cons_succ,i64_w,i32_w]
       rfl
      refine pure_ (i:=8) (N:=some 40) (v:=?_) (a':=?_) #[true,true,true,true,true,true,true,true,true,false,true,false,false,false] rfl rfl (any_of HT_.out (by kernel_rfl)) (fun _ _ _ h => h) (Or.inl ⟨by rfl,?_⟩) ?_ ?_
      rotate_left
      ·intro w'
       go_simp
       with_reducible rfl
      rotate_left
      ·simp only [Act.put,List.setIfInBounds_toArray,List.set_cons_zero,List.set_cons_succ,i64_w,i32_w]
       rfl
      refine pure_ (i:=9) (N:=some 41) (v:=?_) (a':=?_) #[true,true,true,true,true,true,true,true,true,true,true,false,false,false] rfl rfl (any_of HT_.out (by kernel_rfl)) (fun _ _ _ h => h) (Or.inl ⟨by rfl,?_⟩) ?_ ?_
      rotate_left
      ·intro w'
       go_simp
       with_reducible rfl
      rotate_left
      ·simp only [Act.put,List.setIfInBounds_toArray,List.set_cons_zero,List.set_cons_succ,i64_w,i32_w]
       rfl
      exact norm_ (by simp only [putAll,Act.put,List.setIfInBounds_toArray,List.set_cons_zero,List.set_cons_succ]) (hCont (.slice Ao26 t553.length co26,.slice Ao27 t557.length co27,v562,gb566) _ ⟨hHeld,(kup HO555.out),(kup (Kd.R_mono HO559.out (fun _ hk => hk.2))),(kup (Kd.R_mono HO563.out (fun _ hk => hk.2))),(bup BK550.out),(bup BK566.out),GW566.out,GE566.out,NB550_566.out,NB566_550.out,(lup HB.out)⟩)
    ·skip
     refine box_step ?hg (N:=8) ?hd (cs:=#[.int .i64 0,.slice none 0 0]) (t:=30) ?hr ?_;(case hd => rfl);(case hg => rfl);(case hr => first|(go_simp;done)|(go_simp;rfl))
     intro gb566 hg w23 hbox hb
     have n0_:=am (blk_below (bup BK550.out) hb)
     have n1_:=am (below_step (lup HB.out) hb)
     have n2_:=am (hbox)
     have n3_:=am ((by rw [hg];exact (below_size (lup HB.out)) : w.heap.size ≤ gb566))
     have n4_:=am ((by rw [hg];exact (below_size (lup HB.out)) : w.heap.size ≤ gb566))
     have n5_:=am ((by rw [hg];exact Nat.ne_of_lt (blk_lt (bup BK550.out)) : gb550≠gb566))
     have n6_:=am ((by rw [hg];exact Nat.ne_of_gt (blk_lt (bup BK550.out)) : gb566≠gb550))
     clear BK550
     clear HB
     have BK550:=n0_
     have HB:=n1_
     have BK566:=n2_
     have GW566:=n3_
     have GE566:=n4_
     have NB550_566:=n5_
     have NB566_550:=n6_
     clear n0_ n1_ n2_ n3_ n4_ n5_ n6_
     clear hb hbox hg
     refine hK.out _ _ ⟨(blk_cell BK550.out 0).trans rfl,(blk_cell BK550.out 1).trans rfl⟩ (fun hHeld => ?_)
     clear hK K
     refine norm_ (a':=?_) ?_ ?_
     rotate_left
     ·show Act.put _ (some 8) _ = _
      simp only [Act.put,List.setIfInBounds_toArray,List.set_cons_zero,List.set_cons_succ,i64_w,i32_w]
      rfl
     refine one_ (i:=1) (N:=some 34) #[true,true,true,false,true,false,false,false,false,false,true,false,false,false] rfl rfl (one_of HT_.out (by kernel_rfl)) (by decide) (fun K hK => ?_)
     refine goes_ Tryd.func19 (by kernel_rfl) rfl #[.slice A0 l0.length c0] (by rfl) rfl rfl (by (try simp only [List.map_toArray,List.map_cons,List.map_nil]);first|done|rfl|(simp only [List.length_drop,List.length_take];rfl)) ?_
     with_reducible refine (laws_toStringS.calls k _ _ l0 t553 _ ?side1 ?side2 A12.out).mono ?_
     (case side1 => repeat (first|exact (Kd.C_below HR0.out HB.out)|(with_reducible first|refine Kd.C_alloc ?_ _|refine Kd.C_drewN ?_ _|refine Kd.C_drew ?_)))
     (case side2 => exact HC0.out)
     rintro e w24 ⟨v554,rfl,ho0,hb⟩
     refine ⟨_,rfl,?_⟩
     have n0_:=am (Kd.R_lower ho0 (below_size (lup HB.out)))
     have n1_:=am (blk_below (bup BK550.out) hb)
     have n2_:=am (blk_below (bup BK566.out) hb)
     have n3_:=am (below_step (lup HB.out) hb)
     clear BK550
     clear BK566
     clear HB
     have HO555:=n0_
     have BK550:=n1_
     have BK566:=n2_
     have HB:=n3_
     clear n0_ n1_ n2_ n3_
     (try clear hb)
     (try clear hb2)
     (try clear hk)
     (try clear hi)
     (try clear ho0)
     refine hK.out _ _ ⟨(blk_cell BK550.out 0).trans rfl,(blk_cell BK550.out 1).trans rfl⟩ (fun hHeld => ?_)
     clear hK K
     refine norm_ (a':=?_) ?_ ?_
     rotate_left
     ·show Act.put _ (some 34) _ = _
      simp only [Act.put,List.setIfInBounds_toArray,List.set_cons_zero,List.set_cons_succ,i64_w,i32_w]
      rfl
     refine one_ (i:=3) (N:=some 36) #[true,true,true,true,true,false,false,false,false,false,true,false,false,false] rfl rfl (one_of HT_.out (by kernel_rfl)) (by decide) (fun K hK => ?_)
     refine goes_ Tryd.func20 (by kernel_rfl) rfl #[.agg #[.int .i64 a1_0,.slice A1_1 l1_1.length c1_1]] (by rfl) rfl rfl (by (try simp only [List.map_toArray,List.map_cons,List.map_nil]);first|done|rfl|(simp only [List.length_drop,List.length_take];rfl)) ?_
     with_reducible refine (laws_toNursery.calls k a1_0 _ _ l1_1 t556 t557 _ ?side1 ?side2 A13.out).mono ?_
     (case side1 => repeat (first|exact (Kd.C_below HR1_1.out HB.out)|(with_reducible first|refine Kd.C_alloc ?_ _|refine Kd.C_drewN ?_ _|refine Kd.C_drew ?_)))
     (case side2 => exact HC1_1.out)
     rintro e w25 ⟨v558,rfl,ho0,hb⟩
     refine ⟨_,rfl,?_⟩
     have n0_:=am (Kd.R_below (kup HO555.out) hb)
     have n1_:=am (Kd.R_lower ho0 (below_size (lup HB.out)))
     have n2_:=am (blk_below (bup BK550.out) hb)
     have n3_:=am (blk_below (bup BK566.out) hb)
     have n4_:=am (below_step (lup HB.out) hb)
     clear HO555
     clear BK550
     clear BK566
     clear HB
     have HO555:=n0_
     have HO559:=n1_
     have BK550:=n2_
     have BK566:=n3_
     have HB:=n4_
     clear n0_ n1_ n2_ n3_ n4_
     (try clear hb)
     (try clear hb2)
     (try clear hk)
     (try clear hi)
     (try clear ho0)
     obtain ⟨Ao26,co26,eo26⟩:=Kd.R_slice HO555.out
     (first|subst eo26|(injection eo26 with f1_ f2_ f3_;have f4_:=f1_.symm;have f5_:=f3_.symm;clear f1_ f2_ f3_;subst f4_;subst f5_))
     obtain ⟨Ao27,co27,eo27⟩:=Kd.R_slice HO559.out
     (first|subst eo27|(injection eo27 with f1_ f2_ f3_;have f4_:=f1_.symm;have f5_:=f3_.symm;clear f1_ f2_ f3_;subst f4_;subst f5_))
     refine hK.out _ _ ⟨(blk_cell BK550.out 0).trans rfl,(blk_cell BK550.out 1).trans rfl⟩ (fun hHeld => ?_)
     clear hK K
     refine norm_ (a':=?_) ?_ ?_
     rotate_left
     ·show Act.put _ (some 36) _ = _
      simp only [Act.put,List.setIfInBounds_toArray,List.set_cons_zero,List.set_cons_succ,i64_w,i32_w]
      rfl
     refine one_ (i:=5) (N:=some 38) #[true,true,true,true,true,true,false,false,false,false,true,false,false,false] rfl rfl (one_of HT_.out (by kernel_rfl)) (by decide) (fun K hK => ?_)
     refine goes_ Tryd.func38 (by kernel_rfl) rfl #[.slice Ao26 t553.length co26,.agg #[.int .i64 t556,.slice Ao27 t557.length co27],.int .i64 a2] (by rfl) rfl rfl (by (try simp only [List.map_toArray,List.map_cons,List.map_nil]);first|done|rfl|(simp only [List.length_drop,List.length_take];rfl)) ?_
     with_reducible refine (spec_YoungAlloc.calls k _ _ t553 t556 _ _ t557 a2 t560 t561 t564 t565 _ ?side1 ?side2 ?side3 ?side4 A14.out).mono ?_
     (case side1 => repeat (first|exact (Kd.R_reads' HO555.out).2.2|(with_reducible first|refine Kd.C_alloc ?_ _|refine Kd.C_drewN ?_ _|refine Kd.C_drew ?_)))
     (case side2 => exact (Kd.R_reads' HO555.out).2.1)
     (case side3 => repeat (first|exact (Kd.R_reads' HO559.out).2.2|(with_reducible first|refine Kd.C_alloc ?_ _|refine Kd.C_drewN ?_ _|refine Kd.C_drew ?_)))
     (case side4 => exact (Kd.R_reads' HO559.out).2.1)
     rintro e w28 ⟨v562,rfl,ho0,hb⟩
     refine ⟨_,rfl,?_⟩
     have n0_:=am (Kd.R_below (kup HO555.out) hb)
     have n1_:=am (Kd.R_elder' (kup HO559.out) (Kd.R_base ho0) hb)
     have n2_:=am (Kd.R_lower (Kd.R_new' ho0 (Kd.R_lt (kup HO559.out))) (below_size (lup HB.out)))
     have n3_:=am (blk_below (bup BK550.out) hb)
     have n4_:=am (blk_below (bup BK566.out) hb)
     have n5_:=am (below_step (lup HB.out) hb)
     clear HO555
     clear HO559
     clear BK550
     clear BK566
     clear HB
     have HO555:=n0_
     have HO559:=n1_
     have HO563:=n2_
     have BK550:=n3_
     have BK566:=n4_
     have HB:=n5_
     clear n0_ n1_ n2_ n3_ n4_ n5_
     (try clear hb)
     (try clear hb2)
     (try clear hk)
     (try clear hi)
     (try clear ho0)
     refine hK.out _ _ ⟨(blk_cell BK550.out 0).trans rfl,(blk_cell BK550.out 1).trans rfl⟩ (fun hHeld => ?_)
     clear hK K
     refine norm_ (a':=?_) ?_ ?_
     rotate_left
     ·show Act.put _ (some 38) _ = _
      simp only [Act.put,List.setIfInBounds_toArray,List.set_cons_zero,List.set_cons_succ,i64_w,i32_w]
      rfl
     refine pure_ (i:=6) (N:=some 32) (v:=?_) (a':=?_) #[true,true,true,true,true,true,true,false,false,false,true,false,false,false] rfl rfl (any_of HT_.out (by kernel_rfl)) (fun _ _ _ h => h) (Or.inl ⟨by rfl,?_⟩) ?_ ?_
     rotate_left
     ·intro w'
      go_simp
      with_reducible rfl
     rotate_left
     ·simp only [Act.put,List.setIfInBounds_toArray,List.set_cons_zero,List.set_cons_succ,i64_w,i32_w]
      rfl
     refine pure_ (i:=7) (N:=some 39) (v:=?_) (a':=?_) #[true,true,true,true,true,true,true,true,false,false,true,false,false,false] rfl rfl (any_of HT_.out (by kernel_rfl)) (fun _ _ _ h => h) (Or.inl ⟨by rfl,?_⟩) ?_ ?_
     rotate_left
     ·intro w'
      go_simp
      with_reducible rfl
     rotate_left
     ·simp only [Act.put,List.setIfInBounds_toArray,List.set_cons_zero,List.set_cons_succ,i64_w,i32_w]
      rfl
     refine pure_ (i:=8) (N:=some 40) (v:=?_) (a':=?_) #[true,true,true,true,true,true,true,true,true,false,true,false,false,false] rfl rfl (any_of HT_.out (by kernel_rfl)) (fun _ _ _ h => h) (Or.inl ⟨by rfl,?_⟩) ?_ ?_
     rotate_left
     ·intro w'
      go_simp
      with_reducible rfl
     rotate_left
     ·simp only [Act.put,List.setIfInBounds_toArray,List.set_cons_zero,List.set_cons_succ,i64_w,i32_w]
      rfl
     refine pure_ (i:=9) (N:=some 41) (v:=?_) (a':=?_) #[true,true,true,true,true,true,true,true,true,true,true,false,false,false] rfl rfl (any_of HT_.out (by kernel_rfl)) (fun _ _ _ h => h) (Or.inl ⟨by rfl,?_⟩) ?_ ?_
     rotate_left
     ·intro w'
      go_simp
      with_reducible rfl
     rotate_left
     ·simp only [Act.put,List.setIfInBounds_toArray,List.set_cons_zero,List.set_cons_succ,i64_w,i32_w]
      rfl
     exact norm_ (by simp only [putAll,Act.put,List.setIfInBounds_toArray,List.set_cons_zero,List.set_cons_succ]) (hCont (.slice Ao26 t553.length co26,.slice Ao27 t557.length co27,v562,gb566) _ ⟨hHeld,(kup HO555.out),(kup (Kd.R_mono HO559.out (fun _ hk => hk.2))),(kup (Kd.R_mono HO563.out (fun _ hk => hk.2))),(bup BK550.out),(bup BK566.out),GW566.out,GE566.out,NB550_566.out,NB566_550.out,(lup HB.out)⟩)
   rintro ⟨v554,v558,v562,gb566⟩ w29 ⟨hS_,h0_,h1_,h2_,h3_,h4_,h5_,h6_,h7_,h8_,h9_⟩
   have n0_ : Aside0 (Kd.R Kd.string 9 w29 w.heap.size (fun _ => True) v554 t553):=⟨h0_⟩
   have n1_ : Aside0 (Kd.R (Kd.int .i64) 2 w29 w.heap.size (fun k_ => some k_≠(v562 : Value).ownBlock) v558 t557):=⟨h1_⟩
   have n2_ : Aside0 (Kd.R (Kd.int .i64) 2 w29 w.heap.size (fun k_ => some k_≠(v558 : Value).ownBlock) v562 t561):=⟨h2_⟩
   have n3_ : Aside0 (w29.heap[gb550]? = some (.cells #[.int .i64 a1_0,.slice A1_1 l1_1.length c1_1] 25 (0,0))):=⟨h3_⟩
   have n4_ : Aside0 (w29.heap[gb566]? = some (.cells #[.int .i64 0,.slice none 0 0] 30 (0,0))):=⟨h4_⟩
   have n5_ : Aside0 (w.heap.size ≤ gb566):=⟨h5_⟩
   have n6_ : Aside0 (w.heap.size ≤ gb566):=⟨h6_⟩
   have n7_ : Aside0 (gb550≠gb566):=⟨h7_⟩
   have n8_ : Aside0 (gb566≠gb550):=⟨h8_⟩
   have n9_ : Aside0 (Below w.heap.size w w29):=⟨h9_⟩
   clear BK550
   clear HB
   clear h0_ h1_ h2_ h3_ h4_ h5_ h6_ h7_ h8_ h9_
   have HO555:=n0_
   have HO559:=n1_
   have HO563:=n2_
   have BK550:=n3_
   have BK566:=n4_
   have GW566:=n5_
   have GE566:=n6_
   have NB550_566:=n7_
   have NB566_550:=n8_
   have HB:=n9_
   clear n0_ n1_ n2_ n3_ n4_ n5_ n6_ n7_ n8_ n9_
   have hHeld : w29.cell? ⟨gb550,0,none⟩ = some (.int .i64 a1_0)∧w29.cell? ⟨gb550,1,none⟩ = some (.slice A1_1 l1_1.length c1_1):=hS_
   obtain ⟨Ao31,co31,eo31⟩:=Kd.R_slice HO563.out
   (first|subst eo31|(injection eo31 with f1_ f2_ f3_;have f4_:=f1_.symm;have f5_:=f3_.symm;clear f1_ f2_ f3_;subst f4_;subst f5_))
   refine norm_ (a':=?_) ?_ ?_
   rotate_left
   ·simp only [putAll,Act.put,List.setIfInBounds_toArray,List.set_cons_zero,List.set_cons_succ]
    rfl
   refine one_ (i:=11) (N:=none) #[true,true,true,true,true,true,true,true,true,true,true,true,false,false] rfl rfl (one_of HT_.out (by kernel_rfl)) (by decide) (fun K hK => ?_)
   have hs30 : w29.cell? ⟨gb566,0,none⟩ = some (.int .i64 0):=(blk_cell BK566.out 0).trans rfl
   have hfs30:=blk_frozen BK566.out 0
   have hns30_0:=NB550_566.out
   have hms30_0:=NB566_550.out
   have hs32 : w29.cell? ⟨gb566,1,none⟩ = some (.slice none 0 0):=(blk_cell BK566.out 1).trans rfl
   have hfs32:=blk_frozen BK566.out 1
   have hns32_0:=NB550_566.out
   have hms32_0:=NB566_550.out
   refine skip_ (w1:=?_) (by rfl) rfl ?_ ?_
   rotate_left
   ·go_simp
    rfl
   refine hK.out _ _ ⟨((cell_far (p:=⟨gb566,_,none⟩) NB550_566.out _).trans (((cell_far (p:=⟨gb566,_,none⟩) NB550_566.out _).trans (hHeld.1)))),((cell_far (p:=⟨gb566,_,none⟩) NB550_566.out _).trans (((cell_far (p:=⟨gb566,_,none⟩) NB550_566.out _).trans (hHeld.2))))⟩ (fun hHeld => ?_)
   clear hK K
   refine pure_ (i:=12) (N:=some 9) (v:=?_) (a':=?_) #[true,true,true,true,true,true,true,true,true,true,true,true,true,false] rfl rfl (any_of HT_.out (by kernel_rfl)) (fun _ _ _ h => h) (Or.inl ⟨by rfl,?_⟩) ?_ ?_
   rotate_left
   ·intro w'
    go_simp
    with_reducible rfl
   rotate_left
   ·simp only [Act.put,List.setIfInBounds_toArray,List.set_cons_zero,List.set_cons_succ,i64_w,i32_w]
    rfl
   refine pure_ (i:=13) (N:=some 10) (v:=?_) (a':=?_) #[true,true,true,true,true,true,true,true,true,true,true,true,true,true] rfl rfl (any_of HT_.out (by kernel_rfl)) (fun _ _ _ h => h) (Or.inl ⟨by rfl,?_⟩) ?_ ?_
   rotate_left
   ·intro w'
    go_simp
    with_reducible rfl
   rotate_left
   ·simp only [Act.put,List.setIfInBounds_toArray,List.set_cons_zero,List.set_cons_succ,i64_w,i32_w]
    rfl
   refine done_ (done_of HT_.out (by kernel_rfl)) ?_
   go_upto_region 12 with (first|((with_reducible refine gate_callee (f:=19) rfl ?_);refine goesL_ (some 43) rfl rfl Tryd.func19 (by kernel_rfl) rfl #[.slice A0 l0.length c0] rfl (by (try simp only [List.map_toArray,List.map_cons,List.map_nil]);first|done|rfl|(simp only [List.length_drop,List.length_take];rfl)) ?_;(with_reducible refine (laws_toStringS.calls k _ _ l0 t567 _ ?side1 ?side2 A15.out).mono ?_);(case side1 => exact Kd.C_below HR0.out (by repeat (first|(with_reducible first|exact HB.out|apply below_alloc|apply pw_below_drewN|apply below_drew1|refine below_set ?_ GE550.out|refine below_set ?_ GE566.out)|exact HB.out)));(case side2 => exact HC0.out);rintro e w33 ⟨v568,rfl,ho0,hb⟩;refine ⟨_,rfl,?_⟩;have n0_:=am (Kd.R_elder' (by (with_reducible repeat (first|apply Kd.R_alloc|apply Kd.R_drewN|apply Kd.R_drew));exact (Kd.R_mono (Kd.R_far (p:=⟨gb566,1,none⟩) (Kd.R_far (p:=⟨gb566,0,none⟩) (Kd.R_types HO555.out BK566.out (by decide)) (fun _ hk => hk.2) (.int .i64 t560)) (fun _ hk => hk.2) (.slice Ao31 t561.length co31)) (fun _ h_ => h_.1))) (Kd.R_base ho0) hb);have n1_:=am (Kd.R_below (by (with_reducible repeat (first|apply Kd.R_alloc|apply Kd.R_drewN|apply Kd.R_drew));exact (Kd.R_mono (Kd.R_far (p:=⟨gb566,1,none⟩) (Kd.R_far (p:=⟨gb566,0,none⟩) (Kd.R_types HO559.out BK566.out (by decide)) (fun _ hk => hk.2) (.int .i64 t560)) (fun _ hk => hk.2) (.slice Ao31 t561.length co31)) (fun _ h_ => h_.1))) hb);have n2_:=am (Kd.R_below (by (with_reducible repeat (first|apply Kd.R_alloc|apply Kd.R_drewN|apply Kd.R_drew));exact (Kd.R_mono (Kd.R_far (p:=⟨gb566,1,none⟩) (Kd.R_far (p:=⟨gb566,0,none⟩) (Kd.R_types HO563.out BK566.out (by decide)) (fun _ hk => hk.2) (.int .i64 t560)) (fun _ hk => hk.2) (.slice Ao31 t561.length co31)) (fun _ h_ => h_.1))) hb);have n3_:=am (Kd.R_lower (Kd.R_new' ho0 (Kd.R_lt (by (with_reducible repeat (first|apply Kd.R_alloc|apply Kd.R_drewN|apply Kd.R_drew));exact (Kd.R_mono (Kd.R_far (p:=⟨gb566,1,none⟩) (Kd.R_far (p:=⟨gb566,0,none⟩) (Kd.R_types HO555.out BK566.out (by decide)) (fun _ hk => hk.2) (.int .i64 t560)) (fun _ hk => hk.2) (.slice Ao31 t561.length co31)) (fun _ h_ => h_.1))))) (below_size (by repeat (first|(with_reducible first|exact HB.out|apply below_alloc|apply pw_below_drewN|apply below_drew1|refine below_set ?_ GE550.out|refine below_set ?_ GE566.out)|exact HB.out))));have n4_:=am (blk_below (g:=gb550) (o:=.cells #[.int .i64 a1_0,.slice A1_1 l1_1.length c1_1] 25 (0,0)) (by (with_reducible repeat (first|refine blk_drewN ?_ _|refine blk_drew ?_|refine blk_alloc ?_ _));refine blk_far ?_ NB550_566.out _;(with_reducible repeat (first|refine blk_drewN ?_ _|refine blk_drew ?_|refine blk_alloc ?_ _));refine blk_far ?_ NB550_566.out _;(with_reducible repeat (first|refine blk_drewN ?_ _|refine blk_drew ?_|refine blk_alloc ?_ _));exact BK550.out) hb);have n5_:=am (blk_below (g:=gb566) (o:=.cells #[.int .i64 t560,.slice Ao31 t561.length co31] 30 (0,0)) (by (with_reducible repeat (first|refine blk_drewN ?_ _|refine blk_drew ?_|refine blk_alloc ?_ _));refine blk_put (cs:=#[.int .i64 t560,.slice none 0 0]) ?_ 1 _ rfl;(with_reducible repeat (first|refine blk_drewN ?_ _|refine blk_drew ?_|refine blk_alloc ?_ _));refine blk_put (cs:=#[.int .i64 0,.slice none 0 0]) ?_ 0 _ rfl;(with_reducible repeat (first|refine blk_drewN ?_ _|refine blk_drew ?_|refine blk_alloc ?_ _));exact BK566.out) hb);have n6_:=am (below_step (by repeat (first|(with_reducible first|exact HB.out|apply below_alloc|apply pw_below_drewN|apply below_drew1|refine below_set ?_ GE550.out|refine below_set ?_ GE566.out)|exact HB.out)) hb);clear HO555 HO559 HO563 BK550 BK566 HB;have HO555:=n0_;have HO559:=n1_;have HO563:=n2_;have HO569:=n3_;have BK550:=n4_;have BK566:=n5_;have HB:=n6_;clear n0_ n1_ n2_ n3_ n4_ n5_ n6_;(try clear hb);(try clear hb2);(try clear hk);(try clear hi);(try clear ho0);have hnb34:=NB550_566.out;have hnc34:=NB566_550.out;have hcz35_0 : w33.cell? ⟨gb550,0,none⟩ = some (.int .i64 a1_0):=(blk_cell BK550.out 0).trans rfl;have hcz35_1 : w33.cell? ⟨gb550,1,none⟩ = some (.slice A1_1 l1_1.length c1_1):=(blk_cell BK550.out 1).trans rfl;have hfz35_0:=blk_frozen BK550.out 0;have hfz35_1:=blk_frozen BK550.out 1)|((with_reducible refine gate_callee (f:=20) rfl ?_);refine goesL_ (some 45) rfl rfl Tryd.func20 (by kernel_rfl) rfl #[.agg #[.int .i64 a1_0,.slice A1_1 l1_1.length c1_1]] rfl (by (try simp only [List.map_toArray,List.map_cons,List.map_nil]);first|done|rfl|(simp only [List.length_drop,List.length_take];rfl)) ?_;(with_reducible refine (laws_toNursery.calls k a1_0 _ _ l1_1 t570 t571 _ ?side1 ?side2 A16.out).mono ?_);(case side1 => repeat (first|exact (Kd.C_below HR1_1.out HB.out)|(with_reducible first|refine Kd.C_alloc ?_ _|refine Kd.C_drewN ?_ _|refine Kd.C_drew ?_)));(case side2 => exact HC1_1.out);rintro e w36 ⟨v572,rfl,ho0,hb⟩;refine ⟨_,rfl,?_⟩;have n0_:=am (Kd.R_below (kup HO555.out) hb);have n1_:=am (Kd.R_elder' (kup HO559.out) (Kd.R_base ho0) hb);have n2_:=am (Kd.R_elder' (kup HO563.out) (Kd.R_base ho0) hb);have n3_:=am (Kd.R_below (kup HO569.out) hb);have n4_:=am (Kd.R_lower (Kd.R_new' (Kd.R_new' ho0 (Kd.R_lt (kup HO559.out))) (Kd.R_lt (kup HO563.out))) (below_size (by repeat (first|(with_reducible first|exact HB.out|apply below_alloc|apply pw_below_drewN|apply below_drew1|refine below_set ?_ GE550.out|refine below_set ?_ GE566.out)|exact HB.out))));have n5_:=am (blk_below (g:=gb550) (o:=.cells #[.int .i64 a1_0,.slice A1_1 l1_1.length c1_1] 25 (0,0)) (bup BK550.out) hb);have n6_:=am (blk_below (g:=gb566) (o:=.cells #[.int .i64 t560,.slice Ao31 t561.length co31] 30 (0,0)) (bup BK566.out) hb);have n7_:=am (below_step (by repeat (first|(with_reducible first|exact HB.out|apply below_alloc|apply pw_below_drewN|apply below_drew1|refine below_set ?_ GE550.out|refine below_set ?_ GE566.out)|exact HB.out)) hb);clear HO555 HO559 HO563 HO569 BK550 BK566 HB;have HO555:=n0_;have HO559:=n1_;have HO563:=n2_;have HO569:=n3_;have HO573:=n4_;have BK550:=n5_;have BK566:=n6_;have HB:=n7_;clear n0_ n1_ n2_ n3_ n4_ n5_ n6_ n7_;(try clear hb);(try clear hb2);(try clear hk);(try clear hi);(try clear ho0))|((with_reducible refine gate_dst (N:=12) rfl ?_);refine box_event ?hg (N:=12) ?hd (cs:=#[.int .i64 0,.slice none 0 0]) (t:=30) ?hr ?_;(case hd => rfl);(case hg => rfl);(case hr => first|(go_simp;done)|(go_simp;rfl));intro gb574 hg w37 hbox hb;have n0_:=am (Kd.R_below (kup HO555.out) hb);have n1_:=am (Kd.R_below (kup HO559.out) hb);have n2_:=am (Kd.R_below (kup HO563.out) hb);have n3_:=am (Kd.R_below (kup HO569.out) hb);have n4_:=am (Kd.R_below (kup HO573.out) hb);have n5_:=am (blk_below (g:=gb550) (o:=.cells #[.int .i64 a1_0,.slice A1_1 l1_1.length c1_1] 25 (0,0)) (bup BK550.out) hb);have n6_:=am (blk_below (g:=gb566) (o:=.cells #[.int .i64 t560,.slice Ao31 t561.length co31] 30 (0,0)) (bup BK566.out) hb);have n7_:=am (below_step (by repeat (first|(with_reducible first|exact HB.out|apply below_alloc|apply pw_below_drewN|apply below_drew1|refine below_set ?_ GE550.out|refine below_set ?_ GE566.out)|exact HB.out)) hb);have n8_:=am (hbox);have n9_:=am ((by rw [hg];exact (below_size (by repeat (first|(with_reducible first|exact HB.out|apply below_alloc|apply pw_below_drewN|apply below_drew1|refine below_set ?_ GE550.out|refine below_set ?_ GE566.out)|exact HB.out))) : w.heap.size ≤ gb574));have n10_:=am ((by rw [hg];exact (below_size (by repeat (first|(with_reducible first|exact HB.out|apply below_alloc|apply pw_below_drewN|apply below_drew1|refine below_set ?_ GE550.out|refine below_set ?_ GE566.out)|exact HB.out))) : w.heap.size ≤ gb574));have n11_:=am ((by rw [hg];exact Nat.ne_of_lt (blk_lt (g:=gb550) (o:=.cells #[.int .i64 a1_0,.slice A1_1 l1_1.length c1_1] 25 (0,0)) (bup BK550.out)) : gb550≠gb574));have n12_:=am ((by rw [hg];exact Nat.ne_of_gt (blk_lt (g:=gb550) (o:=.cells #[.int .i64 a1_0,.slice A1_1 l1_1.length c1_1] 25 (0,0)) (bup BK550.out)) : gb574≠gb550));have n13_:=am ((by rw [hg];exact Nat.ne_of_lt (blk_lt (g:=gb566) (o:=.cells #[.int .i64 t560,.slice Ao31 t561.length co31] 30 (0,0)) (bup BK566.out)) : gb566≠gb574));have n14_:=am ((by rw [hg];exact Nat.ne_of_gt (blk_lt (g:=gb566) (o:=.cells #[.int .i64 t560,.slice Ao31 t561.length co31] 30 (0,0)) (bup BK566.out)) : gb574≠gb566));clear HO555 HO559 HO563 HO569 HO573 BK550 BK566 HB;have HO555:=n0_;have HO559:=n1_;have HO563:=n2_;have HO569:=n3_;have HO573:=n4_;have BK550:=n5_;have BK566:=n6_;have HB:=n7_;have BK574:=n8_;have GW574:=n9_;have GE574:=n10_;have NB550_574:=n11_;have NB574_550:=n12_;have NB566_574:=n13_;have NB574_566:=n14_;clear n0_ n1_ n2_ n3_ n4_ n5_ n6_ n7_ n8_ n9_ n10_ n11_ n12_ n13_ n14_;clear hb hbox hg;have hnb38:=NB574_550.out;have hnc38:=NB550_574.out;have hnb39:=NB574_566.out;have hnc39:=NB566_574.out;have hcz40_0 : w37.cell? ⟨gb574,0,none⟩ = some (.int .i64 0):=(blk_cell BK574.out 0).trans rfl;have hcz40_1 : w37.cell? ⟨gb574,1,none⟩ = some (.slice none 0 0):=(blk_cell BK574.out 1).trans rfl;have hfz40_0:=blk_frozen BK574.out 0;have hfz40_1:=blk_frozen BK574.out 1;obtain ⟨Ao41,co41,eo41⟩:=Kd.R_slice HO573.out;subst eo41;obtain ⟨Ao42,co42,eo42⟩:=Kd.R_slice HO569.out;subst eo42)|((with_reducible refine gate_callee (f:=39) rfl ?_);refine goesL_ (some 50) rfl rfl Tryd.func39 (by kernel_rfl) rfl #[.slice Ao42 t567.length co42,.agg #[.int .i64 t570,.slice Ao41 t571.length co41],.int .i64 a2] rfl (by (try simp only [List.map_toArray,List.map_cons,List.map_nil]);first|done|rfl|(simp only [List.length_drop,List.length_take];rfl)) ?_;(with_reducible refine (impl_YoungAlloc.calls k _ _ t567 t570 _ _ t571 a2 t575 t576 t579 t580 _ ?side1 ?side2 ?side3 ?side4 A17.out).mono ?_);(case side1 => refine (Kd.R_reads' (e:=9) (base:=w.heap.size) (ok:=fun k_ => (True∧some k_≠(v554 : Value).ownBlock)) (n:=t567.length) (c:=co42) ?_).2.2;exact (by (with_reducible repeat (first|apply Kd.R_alloc|apply Kd.R_drewN|apply Kd.R_drew));exact (Kd.R_mono (Kd.R_far (p:=⟨gb574,1,none⟩) (Kd.R_far (p:=⟨gb574,0,none⟩) (Kd.R_types HO569.out BK574.out (by decide)) (fun _ hk => hk.2) (.int .i64 t570)) (fun _ hk => hk.2) (.slice Ao41 t571.length co41)) (fun _ h_ => h_.1))));(case side2 => exact (Kd.R_reads' HO569.out).2.1);(case side3 => refine (Kd.R_reads' (e:=2) (base:=w.heap.size) (ok:=fun k_ => ((True∧some k_≠(v558 : Value).ownBlock)∧some k_≠(.slice Ao31 t561.length co31 : Value).ownBlock)) (n:=t571.length) (c:=co41) ?_).2.2;exact (by (with_reducible repeat (first|apply Kd.R_alloc|apply Kd.R_drewN|apply Kd.R_drew));exact (Kd.R_mono (Kd.R_far (p:=⟨gb574,1,none⟩) (Kd.R_far (p:=⟨gb574,0,none⟩) (Kd.R_types HO573.out BK574.out (by decide)) (fun _ hk => hk.2) (.int .i64 t570)) (fun _ hk => hk.2) (.slice Ao41 t571.length co41)) (fun _ h_ => h_.1))));(case side4 => exact (Kd.R_reads' HO573.out).2.1);rintro e w43 ⟨v577,rfl,ho0,hb⟩;refine ⟨_,rfl,?_⟩;have n0_:=am (Kd.R_below (by (with_reducible repeat (first|apply Kd.R_alloc|apply Kd.R_drewN|apply Kd.R_drew));exact (Kd.R_mono (Kd.R_far (p:=⟨gb574,1,none⟩) (Kd.R_far (p:=⟨gb574,0,none⟩) (Kd.R_types HO555.out BK574.out (by decide)) (fun _ hk => hk.2) (.int .i64 t570)) (fun _ hk => hk.2) (.slice Ao41 t571.length co41)) (fun _ h_ => h_.1))) hb);have n1_:=am (Kd.R_elder' (by (with_reducible repeat (first|apply Kd.R_alloc|apply Kd.R_drewN|apply Kd.R_drew));exact (Kd.R_mono (Kd.R_far (p:=⟨gb574,1,none⟩) (Kd.R_far (p:=⟨gb574,0,none⟩) (Kd.R_types HO559.out BK574.out (by decide)) (fun _ hk => hk.2) (.int .i64 t570)) (fun _ hk => hk.2) (.slice Ao41 t571.length co41)) (fun _ h_ => h_.1))) (Kd.R_base ho0) hb);have n2_:=am (Kd.R_elder' (by (with_reducible repeat (first|apply Kd.R_alloc|apply Kd.R_drewN|apply Kd.R_drew));exact (Kd.R_mono (Kd.R_far (p:=⟨gb574,1,none⟩) (Kd.R_far (p:=⟨gb574,0,none⟩) (Kd.R_types HO563.out BK574.out (by decide)) (fun _ hk => hk.2) (.int .i64 t570)) (fun _ hk => hk.2) (.slice Ao41 t571.length co41)) (fun _ h_ => h_.1))) (Kd.R_base ho0) hb);have n3_:=am (Kd.R_below (by (with_reducible repeat (first|apply Kd.R_alloc|apply Kd.R_drewN|apply Kd.R_drew));exact (Kd.R_mono (Kd.R_far (p:=⟨gb574,1,none⟩) (Kd.R_far (p:=⟨gb574,0,none⟩) (Kd.R_types HO569.out BK574.out (by decide)) (fun _ hk => hk.2) (.int .i64 t570)) (fun _ hk => hk.2) (.slice Ao41 t571.length co41)) (fun _ h_ => h_.1))) hb);have n4_:=am (Kd.R_elder' (by (with_reducible repeat (first|apply Kd.R_alloc|apply Kd.R_drewN|apply Kd.R_drew));exact (Kd.R_mono (Kd.R_far (p:=⟨gb574,1,none⟩) (Kd.R_far (p:=⟨gb574,0,none⟩) (Kd.R_types HO573.out BK574.out (by decide)) (fun _ hk => hk.2) (.int .i64 t570)) (fun _ hk => hk.2) (.slice Ao41 t571.length co41)) (fun _ h_ => h_.1))) (Kd.R_base ho0) hb);have n5_:=am (Kd.R_lower (Kd.R_new' (Kd.R_new' (Kd.R_new' ho0 (Kd.R_lt (by (with_reducible repeat (first|apply Kd.R_alloc|apply Kd.R_drewN|apply Kd.R_drew));exact (Kd.R_mono (Kd.R_far (p:=⟨gb574,1,none⟩) (Kd.R_far (p:=⟨gb574,0,none⟩) (Kd.R_types HO559.out BK574.out (by decide)) (fun _ hk => hk.2) (.int .i64 t570)) (fun _ hk => hk.2) (.slice Ao41 t571.length co41)) (fun _ h_ => h_.1))))) (Kd.R_lt (by (with_reducible repeat (first|apply Kd.R_alloc|apply Kd.R_drewN|apply Kd.R_drew));exact (Kd.R_mono (Kd.R_far (p:=⟨gb574,1,none⟩) (Kd.R_far (p:=⟨gb574,0,none⟩) (Kd.R_types HO563.out BK574.out (by decide)) (fun _ hk => hk.2) (.int .i64 t570)) (fun _ hk => hk.2) (.slice Ao41 t571.length co41)) (fun _ h_ => h_.1))))) (Kd.R_lt (by (with_reducible repeat (first|apply Kd.R_alloc|apply Kd.R_drewN|apply Kd.R_drew));exact (Kd.R_mono (Kd.R_far (p:=⟨gb574,1,none⟩) (Kd.R_far (p:=⟨gb574,0,none⟩) (Kd.R_types HO573.out BK574.out (by decide)) (fun _ hk => hk.2) (.int .i64 t570)) (fun _ hk => hk.2) (.slice Ao41 t571.length co41)) (fun _ h_ => h_.1))))) (below_size (by repeat (first|(with_reducible first|exact HB.out|apply below_alloc|apply pw_below_drewN|apply below_drew1|refine below_set ?_ GE550.out|refine below_set ?_ GE566.out|refine below_set ?_ GE574.out)|exact HB.out))));have n6_:=am (blk_below (g:=gb550) (o:=.cells #[.int .i64 a1_0,.slice A1_1 l1_1.length c1_1] 25 (0,0)) (by (with_reducible repeat (first|refine blk_drewN ?_ _|refine blk_drew ?_|refine blk_alloc ?_ _));refine blk_far ?_ NB550_574.out _;(with_reducible repeat (first|refine blk_drewN ?_ _|refine blk_drew ?_|refine blk_alloc ?_ _));refine blk_far ?_ NB550_574.out _;(with_reducible repeat (first|refine blk_drewN ?_ _|refine blk_drew ?_|refine blk_alloc ?_ _));exact BK550.out) hb);have n7_:=am (blk_below (g:=gb566) (o:=.cells #[.int .i64 t560,.slice Ao31 t561.length co31] 30 (0,0)) (by (with_reducible repeat (first|refine blk_drewN ?_ _|refine blk_drew ?_|refine blk_alloc ?_ _));refine blk_far ?_ NB566_574.out _;(with_reducible repeat (first|refine blk_drewN ?_ _|refine blk_drew ?_|refine blk_alloc ?_ _));refine blk_far ?_ NB566_574.out _;(with_reducible repeat (first|refine blk_drewN ?_ _|refine blk_drew ?_|refine blk_alloc ?_ _));exact BK566.out) hb);have n8_:=am (blk_below (g:=gb574) (o:=.cells #[.int .i64 t570,.slice Ao41 t571.length co41] 30 (0,0)) (by (with_reducible repeat (first|refine blk_drewN ?_ _|refine blk_drew ?_|refine blk_alloc ?_ _));refine blk_put (cs:=#[.int .i64 t570,.slice none 0 0]) ?_ 1 _ rfl;(with_reducible repeat (first|refine blk_drewN ?_ _|refine blk_drew ?_|refine blk_alloc ?_ _));refine blk_put (cs:=#[.int .i64 0,.slice none 0 0]) ?_ 0 _ rfl;(with_reducible repeat (first|refine blk_drewN ?_ _|refine blk_drew ?_|refine blk_alloc ?_ _));exact BK574.out) hb);have n9_:=am (below_step (by repeat (first|(with_reducible first|exact HB.out|apply below_alloc|apply pw_below_drewN|apply below_drew1|refine below_set ?_ GE550.out|refine below_set ?_ GE566.out|refine below_set ?_ GE574.out)|exact HB.out)) hb);clear HO555 HO559 HO563 HO569 HO573 BK550 BK566 BK574 HB;have HO555:=n0_;have HO559:=n1_;have HO563:=n2_;have HO569:=n3_;have HO573:=n4_;have HO578:=n5_;have BK550:=n6_;have BK566:=n7_;have BK574:=n8_;have HB:=n9_;clear n0_ n1_ n2_ n3_ n4_ n5_ n6_ n7_ n8_ n9_;(try clear hb);(try clear hb2);(try clear hk);(try clear hi);(try clear ho0))|((with_reducible refine gate_dst (N:=13) rfl ?_);refine box_event ?hg (N:=13) ?hd (cs:=#[.int .i64 0,.slice none 0 0]) (t:=30) ?hr ?_;(case hd => rfl);(case hg => rfl);(case hr => first|(go_simp;done)|(go_simp;rfl));intro gb581 hg w44 hbox hb;have n0_:=am (Kd.R_below (kup HO555.out) hb);have n1_:=am (Kd.R_below (kup HO559.out) hb);have n2_:=am (Kd.R_below (kup HO563.out) hb);have n3_:=am (Kd.R_below (kup HO569.out) hb);have n4_:=am (Kd.R_below (kup HO573.out) hb);have n5_:=am (Kd.R_below (kup HO578.out) hb);have n6_:=am (blk_below (g:=gb550) (o:=.cells #[.int .i64 a1_0,.slice A1_1 l1_1.length c1_1] 25 (0,0)) (bup BK550.out) hb);have n7_:=am (blk_below (g:=gb566) (o:=.cells #[.int .i64 t560,.slice Ao31 t561.length co31] 30 (0,0)) (bup BK566.out) hb);have n8_:=am (blk_below (g:=gb574) (o:=.cells #[.int .i64 t570,.slice Ao41 t571.length co41] 30 (0,0)) (bup BK574.out) hb);have n9_:=am (below_step (by repeat (first|(with_reducible first|exact HB.out|apply below_alloc|apply pw_below_drewN|apply below_drew1|refine below_set ?_ GE550.out|refine below_set ?_ GE566.out|refine below_set ?_ GE574.out)|exact HB.out)) hb);have n10_:=am (hbox);have n11_:=am ((by rw [hg];exact (below_size (by repeat (first|(with_reducible first|exact HB.out|apply below_alloc|apply pw_below_drewN|apply below_drew1|refine below_set ?_ GE550.out|refine below_set ?_ GE566.out|refine below_set ?_ GE574.out)|exact HB.out))) : w.heap.size ≤ gb581));have n12_:=am ((by rw [hg];exact (below_size (by repeat (first|(with_reducible first|exact HB.out|apply below_alloc|apply pw_below_drewN|apply below_drew1|refine below_set ?_ GE550.out|refine below_set ?_ GE566.out|refine below_set ?_ GE574.out)|exact HB.out))) : w.heap.size ≤ gb581));have n13_:=am ((by rw [hg];exact Nat.ne_of_lt (blk_lt (g:=gb550) (o:=.cells #[.int .i64 a1_0,.slice A1_1 l1_1.length c1_1] 25 (0,0)) (bup BK550.out)) : gb550≠gb581));have n14_:=am ((by rw [hg];exact Nat.ne_of_gt (blk_lt (g:=gb550) (o:=.cells #[.int .i64 a1_0,.slice A1_1 l1_1.length c1_1] 25 (0,0)) (bup BK550.out)) : gb581≠gb550));have n15_:=am ((by rw [hg];exact Nat.ne_of_lt (blk_lt (g:=gb566) (o:=.cells #[.int .i64 t560,.slice Ao31 t561.length co31] 30 (0,0)) (bup BK566.out)) : gb566≠gb581));have n16_:=am ((by rw [hg];exact Nat.ne_of_gt (blk_lt (g:=gb566) (o:=.cells #[.int .i64 t560,.slice Ao31 t561.length co31] 30 (0,0)) (bup BK566.out)) : gb581≠gb566));have n17_:=am ((by rw [hg];exact Nat.ne_of_lt (blk_lt (g:=gb574) (o:=.cells #[.int .i64 t570,.slice Ao41 t571.length co41] 30 (0,0)) (bup BK574.out)) : gb574≠gb581));have n18_:=am ((by rw [hg];exact Nat.ne_of_gt (blk_lt (g:=gb574) (o:=.cells #[.int .i64 t570,.slice Ao41 t571.length co41] 30 (0,0)) (bup BK574.out)) : gb581≠gb574));clear HO555 HO559 HO563 HO569 HO573 HO578 BK550 BK566 BK574 HB;have HO555:=n0_;have HO559:=n1_;have HO563:=n2_;have HO569:=n3_;have HO573:=n4_;have HO578:=n5_;have BK550:=n6_;have BK566:=n7_;have BK574:=n8_;have HB:=n9_;have BK581:=n10_;have GW581:=n11_;have GE581:=n12_;have NB550_581:=n13_;have NB581_550:=n14_;have NB566_581:=n15_;have NB581_566:=n16_;have NB574_581:=n17_;have NB581_574:=n18_;clear n0_ n1_ n2_ n3_ n4_ n5_ n6_ n7_ n8_ n9_ n10_ n11_ n12_ n13_ n14_ n15_ n16_ n17_ n18_;clear hb hbox hg;have hnb45:=NB581_550.out;have hnc45:=NB550_581.out;have hnb46:=NB581_566.out;have hnc46:=NB566_581.out;have hnb47:=NB581_574.out;have hnc47:=NB574_581.out;have hcz48_0 : w44.cell? ⟨gb581,0,none⟩ = some (.int .i64 0):=(blk_cell BK581.out 0).trans rfl;have hcz48_1 : w44.cell? ⟨gb581,1,none⟩ = some (.slice none 0 0):=(blk_cell BK581.out 1).trans rfl;have hfz48_0:=blk_frozen BK581.out 0;have hfz48_1:=blk_frozen BK581.out 1;obtain ⟨Ao49,co49,eo49⟩:=Kd.R_slice HO578.out;subst eo49))
   (try simp only [Act.put,List.setIfInBounds_toArray,List.set_cons_zero,List.set_cons_succ])
   go_cut [67] (fun v67 wc => ∃ (kq : Nat) (x67_17 : Bool),v67 = .bool x67_17∧Aside0 (laws_FnExactYoungAlloc.j0 kq l0 a2 t564 t565 t567 t579 t580 x67_17 a1_0 l1_1 t560 t561 t570 t571 t575 t576 = some r)∧Aside0 (kq ≤ k)∧Aside0 (Kd.R Kd.string 9 wc w.heap.size (fun _ => True) (.slice Ao42 t567.length co42) t567)∧Aside0 (Kd.R (Kd.int .i64) 2 wc w.heap.size (fun k_ => some k_≠((.slice Ao41 t571.length co41) : Value).ownBlock∧some k_≠((.slice Ao49 t576.length co49) : Value).ownBlock) (.slice Ao31 t561.length co31) t561)∧Aside0 (Kd.R (Kd.int .i64) 2 wc w.heap.size (fun k_ => some k_≠((.slice Ao31 t561.length co31) : Value).ownBlock∧some k_≠((.slice Ao49 t576.length co49) : Value).ownBlock) (.slice Ao41 t571.length co41) t571)∧Aside0 (Kd.R (Kd.int .i64) 2 wc w.heap.size (fun k_ => some k_≠((.slice Ao31 t561.length co31) : Value).ownBlock∧some k_≠((.slice Ao41 t571.length co41) : Value).ownBlock) (.slice Ao49 t576.length co49) t576)∧Aside0 (wc.heap[gb550]? = some (.cells #[.int .i64 a1_0,(.slice A1_1 l1_1.length c1_1)] 25 (0,0)))∧Aside0 (wc.heap[gb566]? = some (.cells #[.int .i64 t560,(.slice Ao31 t561.length co31)] 30 (0,0)))∧Aside0 (wc.heap[gb574]? = some (.cells #[.int .i64 t570,(.slice Ao41 t571.length co41)] 30 (0,0)))∧Aside0 (wc.heap[gb581]? = some (.cells #[.int .i64 t575,(.slice Ao49 t576.length co49)] 30 (0,0)))∧Aside0 (Below w.heap.size w wc))
   case first =>
    have H:=HC18.out
    clear HC18
    replace H:=Option.bind_eq_some_iff.mp H
    obtain ⟨t582,A500,H⟩:=H
    try dsimp only at H
    have A50:=am A500
    clear A500
    by_cases c51 : t582 = true
    ·subst c51
     have H1:=H;rw [if_pos rfl] at H1
     clear H
     have H:=H1
     clear H1
     by_cases c52 : t579 = t564
     ·rw [if_pos c52] at H
      have c52b0 : (t579 == t564) = true:=beq_iff_eq.mpr c52
      have c52b1 : (t579 != t564) = false:=bne_eq_false_iff_eq.mpr c52
      clear c52
      (first|rw [c52b0]|(simp only [i64_w,i32_w];rw [c52b0])|skip)
      have H':=am H
      clear H
      have hnb53:=NB581_550.out
      have hnc53:=NB550_581.out
      have hnb54:=NB581_566.out
      have hnc54:=NB566_581.out
      have hnb55:=NB581_574.out
      have hnc55:=NB574_581.out
      have hcz56_0 : w44.cell? ⟨gb581,0,none⟩ = some (.int .i64 0):=(blk_cell BK581.out 0).trans rfl
      have hcz56_1 : w44.cell? ⟨gb581,1,none⟩ = some (.slice none 0 0):=(blk_cell BK581.out 1).trans rfl
      have hfz56_0:=blk_frozen BK581.out 0
      have hfz56_1:=blk_frozen BK581.out 1
      have hnb57:=NB566_550.out
      have hnc57:=NB550_566.out
      have hnb58:=NB566_574.out
      have hnc58:=NB574_566.out
      have hcz59_0 : w44.cell? ⟨gb566,0,none⟩ = some (.int .i64 t560):=(blk_cell BK566.out 0).trans rfl
      have hcz59_1 : w44.cell? ⟨gb566,1,none⟩ = some (.slice Ao31 t561.length co31):=(blk_cell BK566.out 1).trans rfl
      have hfz59_0:=blk_frozen BK566.out 0
      have hfz59_1:=blk_frozen BK566.out 1
      go_wp2_with (first|((with_reducible refine gate_callee (f:=23) rfl ?_);refine goesL_ (some 56) rfl rfl Tryd.func23 (by kernel_rfl) rfl #[.agg #[.int .i64 t575,.slice Ao49 t576.length co49],.agg #[.int .i64 t560,.slice Ao31 t561.length co31]] rfl (by (try simp only [List.map_toArray,List.map_cons,List.map_nil]);first|done|rfl|(simp only [List.length_drop,List.length_take];rfl)) ?_;(with_reducible refine (laws_eqNursery.calls k t575 _ _ t576 t560 _ _ t561 true _ ?side1 ?side2 ?side3 ?side4 A50.out).mono ?_);(case side1 => refine (Kd.R_reads' (e:=2) (base:=w.heap.size) (ok:=fun k_ => (((True∧some k_≠(v558 : Value).ownBlock)∧some k_≠(.slice Ao31 t561.length co31 : Value).ownBlock)∧some k_≠(.slice Ao41 t571.length co41 : Value).ownBlock)) (n:=t576.length) (c:=co49) ?_).2.2;exact (by (with_reducible repeat (first|apply Kd.R_alloc|apply Kd.R_drewN|apply Kd.R_drew));exact (Kd.R_mono (Kd.R_far (p:=⟨gb581,1,none⟩) (Kd.R_far (p:=⟨gb581,0,none⟩) (Kd.R_types HO578.out BK581.out (by decide)) (fun _ hk => hk.2) (.int .i64 t575)) (fun _ hk => hk.2) (.slice Ao49 t576.length co49)) (fun _ h_ => h_.1))));(case side2 => exact (Kd.R_reads' HO578.out).2.1);(case side3 => refine (Kd.R_reads' (e:=2) (base:=w.heap.size) (ok:=fun k_ => ((some k_≠(v558 : Value).ownBlock∧some k_≠(.slice Ao41 t571.length co41 : Value).ownBlock)∧some k_≠(.slice Ao49 t576.length co49 : Value).ownBlock)) (n:=t561.length) (c:=co31) ?_).2.2;exact (by (with_reducible repeat (first|apply Kd.R_alloc|apply Kd.R_drewN|apply Kd.R_drew));exact (Kd.R_mono (Kd.R_far (p:=⟨gb581,1,none⟩) (Kd.R_far (p:=⟨gb581,0,none⟩) (Kd.R_types HO563.out BK581.out (by decide)) (fun _ hk => hk.2) (.int .i64 t575)) (fun _ hk => hk.2) (.slice Ao49 t576.length co49)) (fun _ h_ => h_.1))));(case side4 => exact (Kd.R_reads' HO563.out).2.1);rintro e w60 ⟨rfl,hb⟩;refine ⟨_,rfl,?_⟩;have n0_:=am (Kd.R_below (by (with_reducible repeat (first|apply Kd.R_alloc|apply Kd.R_drewN|apply Kd.R_drew));exact (Kd.R_mono (Kd.R_far (p:=⟨gb581,1,none⟩) (Kd.R_far (p:=⟨gb581,0,none⟩) (Kd.R_types HO555.out BK581.out (by decide)) (fun _ hk => hk.2) (.int .i64 t575)) (fun _ hk => hk.2) (.slice Ao49 t576.length co49)) (fun _ h_ => h_.1))) hb);have n1_:=am (Kd.R_below (by (with_reducible repeat (first|apply Kd.R_alloc|apply Kd.R_drewN|apply Kd.R_drew));exact (Kd.R_mono (Kd.R_far (p:=⟨gb581,1,none⟩) (Kd.R_far (p:=⟨gb581,0,none⟩) (Kd.R_types HO559.out BK581.out (by decide)) (fun _ hk => hk.2) (.int .i64 t575)) (fun _ hk => hk.2) (.slice Ao49 t576.length co49)) (fun _ h_ => h_.1))) hb);have n2_:=am (Kd.R_below (by (with_reducible repeat (first|apply Kd.R_alloc|apply Kd.R_drewN|apply Kd.R_drew));exact (Kd.R_mono (Kd.R_far (p:=⟨gb581,1,none⟩) (Kd.R_far (p:=⟨gb581,0,none⟩) (Kd.R_types HO563.out BK581.out (by decide)) (fun _ hk => hk.2) (.int .i64 t575)) (fun _ hk => hk.2) (.slice Ao49 t576.length co49)) (fun _ h_ => h_.1))) hb);have n3_:=am (Kd.R_below (by (with_reducible repeat (first|apply Kd.R_alloc|apply Kd.R_drewN|apply Kd.R_drew));exact (Kd.R_mono (Kd.R_far (p:=⟨gb581,1,none⟩) (Kd.R_far (p:=⟨gb581,0,none⟩) (Kd.R_types HO569.out BK581.out (by decide)) (fun _ hk => hk.2) (.int .i64 t575)) (fun _ hk => hk.2) (.slice Ao49 t576.length co49)) (fun _ h_ => h_.1))) hb);have n4_:=am (Kd.R_below (by (with_reducible repeat (first|apply Kd.R_alloc|apply Kd.R_drewN|apply Kd.R_drew));exact (Kd.R_mono (Kd.R_far (p:=⟨gb581,1,none⟩) (Kd.R_far (p:=⟨gb581,0,none⟩) (Kd.R_types HO573.out BK581.out (by decide)) (fun _ hk => hk.2) (.int .i64 t575)) (fun _ hk => hk.2) (.slice Ao49 t576.length co49)) (fun _ h_ => h_.1))) hb);have n5_:=am (Kd.R_below (by (with_reducible repeat (first|apply Kd.R_alloc|apply Kd.R_drewN|apply Kd.R_drew));exact (Kd.R_mono (Kd.R_far (p:=⟨gb581,1,none⟩) (Kd.R_far (p:=⟨gb581,0,none⟩) (Kd.R_types HO578.out BK581.out (by decide)) (fun _ hk => hk.2) (.int .i64 t575)) (fun _ hk => hk.2) (.slice Ao49 t576.length co49)) (fun _ h_ => h_.1))) hb);have n6_:=am (blk_below (g:=gb550) (o:=.cells #[.int .i64 a1_0,.slice A1_1 l1_1.length c1_1] 25 (0,0)) (by (with_reducible repeat (first|refine blk_drewN ?_ _|refine blk_drew ?_|refine blk_alloc ?_ _));refine blk_far ?_ NB550_581.out _;(with_reducible repeat (first|refine blk_drewN ?_ _|refine blk_drew ?_|refine blk_alloc ?_ _));refine blk_far ?_ NB550_581.out _;(with_reducible repeat (first|refine blk_drewN ?_ _|refine blk_drew ?_|refine blk_alloc ?_ _));exact BK550.out) hb);have n7_:=am (blk_below (g:=gb566) (o:=.cells #[.int .i64 t560,.slice Ao31 t561.length co31] 30 (0,0)) (by (with_reducible repeat (first|refine blk_drewN ?_ _|refine blk_drew ?_|refine blk_alloc ?_ _));refine blk_far ?_ NB566_581.out _;(with_reducible repeat (first|refine blk_drewN ?_ _|refine blk_drew ?_|refine blk_alloc ?_ _));refine blk_far ?_ NB566_581.out _;(with_reducible repeat (first|refine blk_drewN ?_ _|refine blk_drew ?_|refine blk_alloc ?_ _));exact BK566.out) hb);have n8_:=am (blk_below (g:=gb574) (o:=.cells #[.int .i64 t570,.slice Ao41 t571.length co41] 30 (0,0)) (by (with_reducible repeat (first|refine blk_drewN ?_ _|refine blk_drew ?_|refine blk_alloc ?_ _));refine blk_far ?_ NB574_581.out _;(with_reducible repeat (first|refine blk_drewN ?_ _|refine blk_drew ?_|refine blk_alloc ?_ _));refine blk_far ?_ NB574_581.out _;(with_reducible repeat (first|refine blk_drewN ?_ _|refine blk_drew ?_|refine blk_alloc ?_ _));exact BK574.out) hb);have n9_:=am (blk_below (g:=gb581) (o:=.cells #[.int .i64 t575,.slice Ao49 t576.length co49] 30 (0,0)) (by (with_reducible repeat (first|refine blk_drewN ?_ _|refine blk_drew ?_|refine blk_alloc ?_ _));refine blk_put (cs:=#[.int .i64 t575,.slice none 0 0]) ?_ 1 _ rfl;(with_reducible repeat (first|refine blk_drewN ?_ _|refine blk_drew ?_|refine blk_alloc ?_ _));refine blk_put (cs:=#[.int .i64 0,.slice none 0 0]) ?_ 0 _ rfl;(with_reducible repeat (first|refine blk_drewN ?_ _|refine blk_drew ?_|refine blk_alloc ?_ _));exact BK581.out) hb);have n10_:=am (below_step (by repeat (first|(with_reducible first|exact HB.out|apply below_alloc|apply pw_below_drewN|apply below_drew1|refine below_set ?_ GE550.out|refine below_set ?_ GE566.out|refine below_set ?_ GE574.out|refine below_set ?_ GE581.out)|exact HB.out)) hb);clear HO555 HO559 HO563 HO569 HO573 HO578 BK550 BK566 BK574 BK581 HB;have HO555:=n0_;have HO559:=n1_;have HO563:=n2_;have HO569:=n3_;have HO573:=n4_;have HO578:=n5_;have BK550:=n6_;have BK566:=n7_;have BK574:=n8_;have BK581:=n9_;have HB:=n10_;clear n0_ n1_ n2_ n3_ n4_ n5_ n6_ n7_ n8_ n9_ n10_;(try clear hb);(try clear hb2);(try clear hk);(try clear hi)))
      go_meet
      case rel => exact ⟨_,((t580 != t565)),(by first|rfl|(simp;done)|(simp [*];done)),H',⟨by first|omega|exact Nat.le_refl _⟩,⟨kup (Kd.R_mono HO569.out (fun _ hk => trivial))⟩,⟨kup (Kd.R_mono HO563.out (fun _ hk => ⟨hk.1.2,hk.2⟩))⟩,⟨kup (Kd.R_mono HO573.out (fun _ hk => ⟨hk.1.2,hk.2⟩))⟩,⟨kup (Kd.R_mono HO578.out (fun _ hk => ⟨hk.1.2,hk.2⟩))⟩,⟨bup BK550.out⟩,⟨bup BK566.out⟩,⟨bup BK574.out⟩,⟨bup BK581.out⟩,⟨lup HB.out⟩⟩
     ·rw [if_neg c52] at H
      have c52b0 : (t579 == t564) = false:=beq_eq_false_iff_ne.mpr c52
      have c52b1 : (t579 != t564) = true:=bne_iff_ne.mpr c52
      (first|rw [c52b0]|(simp only [i64_w,i32_w];rw [c52b0])|skip)
      have H':=am H
      clear H
      have hnb61:=NB581_550.out
      have hnc61:=NB550_581.out
      have hnb62:=NB581_566.out
      have hnc62:=NB566_581.out
      have hnb63:=NB581_574.out
      have hnc63:=NB574_581.out
      have hcz64_0 : w44.cell? ⟨gb581,0,none⟩ = some (.int .i64 0):=(blk_cell BK581.out 0).trans rfl
      have hcz64_1 : w44.cell? ⟨gb581,1,none⟩ = some (.slice none 0 0):=(blk_cell BK581.out 1).trans rfl
      have hfz64_0:=blk_frozen BK581.out 0
      have hfz64_1:=blk_frozen BK581.out 1
      have hnb65:=NB566_550.out
      have hnc65:=NB550_566.out
      have hnb66:=NB566_574.out
      have hnc66:=NB574_566.out
      have hcz67_0 : w44.cell? ⟨gb566,0,none⟩ = some (.int .i64 t560):=(blk_cell BK566.out 0).trans rfl
      have hcz67_1 : w44.cell? ⟨gb566,1,none⟩ = some (.slice Ao31 t561.length co31):=(blk_cell BK566.out 1).trans rfl
      have hfz67_0:=blk_frozen BK566.out 0
      have hfz67_1:=blk_frozen BK566.out 1
      go_wp2_with (first|((with_reducible refine gate_callee (f:=23) rfl ?_);refine goesL_ (some 56) rfl rfl Tryd.func23 (by kernel_rfl) rfl #[.agg #[.int .i64 t575,.slice Ao49 t576.length co49],.agg #[.int .i64 t560,.slice Ao31 t561.length co31]] rfl (by (try simp only [List.map_toArray,List.map_cons,List.map_nil]);first|done|rfl|(simp only [List.length_drop,List.length_take];rfl)) ?_;(with_reducible refine (laws_eqNursery.calls k t575 _ _ t576 t560 _ _ t561 true _ ?side1 ?side2 ?side3 ?side4 A50.out).mono ?_);(case side1 => refine (Kd.R_reads' (e:=2) (base:=w.heap.size) (ok:=fun k_ => (((True∧some k_≠(v558 : Value).ownBlock)∧some k_≠(.slice Ao31 t561.length co31 : Value).ownBlock)∧some k_≠(.slice Ao41 t571.length co41 : Value).ownBlock)) (n:=t576.length) (c:=co49) ?_).2.2;exact (by (with_reducible repeat (first|apply Kd.R_alloc|apply Kd.R_drewN|apply Kd.R_drew));exact (Kd.R_mono (Kd.R_far (p:=⟨gb581,1,none⟩) (Kd.R_far (p:=⟨gb581,0,none⟩) (Kd.R_types HO578.out BK581.out (by decide)) (fun _ hk => hk.2) (.int .i64 t575)) (fun _ hk => hk.2) (.slice Ao49 t576.length co49)) (fun _ h_ => h_.1))));(case side2 => exact (Kd.R_reads' HO578.out).2.1);(case side3 => refine (Kd.R_reads' (e:=2) (base:=w.heap.size) (ok:=fun k_ => ((some k_≠(v558 : Value).ownBlock∧some k_≠(.slice Ao41 t571.length co41 : Value).ownBlock)∧some k_≠(.slice Ao49 t576.length co49 : Value).ownBlock)) (n:=t561.length) (c:=co31) ?_).2.2;exact (by (with_reducible repeat (first|apply Kd.R_alloc|apply Kd.R_drewN|apply Kd.R_drew));exact (Kd.R_mono (Kd.R_far (p:=⟨gb581,1,none⟩) (Kd.R_far (p:=⟨gb581,0,none⟩) (Kd.R_types HO563.out BK581.out (by decide)) (fun _ hk => hk.2) (.int .i64 t575)) (fun _ hk => hk.2) (.slice Ao49 t576.length co49)) (fun _ h_ => h_.1))));(case side4 => exact (Kd.R_reads' HO563.out).2.1);rintro e w68 ⟨rfl,hb⟩;refine ⟨_,rfl,?_⟩;have n0_:=am (Kd.R_below (by (with_reducible repeat (first|apply Kd.R_alloc|apply Kd.R_drewN|apply Kd.R_drew));exact (Kd.R_mono (Kd.R_far (p:=⟨gb581,1,none⟩) (Kd.R_far (p:=⟨gb581,0,none⟩) (Kd.R_types HO555.out BK581.out (by decide)) (fun _ hk => hk.2) (.int .i64 t575)) (fun _ hk => hk.2) (.slice Ao49 t576.length co49)) (fun _ h_ => h_.1))) hb);have n1_:=am (Kd.R_below (by (with_reducible repeat (first|apply Kd.R_alloc|apply Kd.R_drewN|apply Kd.R_drew));exact (Kd.R_mono (Kd.R_far (p:=⟨gb581,1,none⟩) (Kd.R_far (p:=⟨gb581,0,none⟩) (Kd.R_types HO559.out BK581.out (by decide)) (fun _ hk => hk.2) (.int .i64 t575)) (fun _ hk => hk.2) (.slice Ao49 t576.length co49)) (fun _ h_ => h_.1))) hb);have n2_:=am (Kd.R_below (by (with_reducible repeat (first|apply Kd.R_alloc|apply Kd.R_drewN|apply Kd.R_drew));exact (Kd.R_mono (Kd.R_far (p:=⟨gb581,1,none⟩) (Kd.R_far (p:=⟨gb581,0,none⟩) (Kd.R_types HO563.out BK581.out (by decide)) (fun _ hk => hk.2) (.int .i64 t575)) (fun _ hk => hk.2) (.slice Ao49 t576.length co49)) (fun _ h_ => h_.1))) hb);have n3_:=am (Kd.R_below (by (with_reducible repeat (first|apply Kd.R_alloc|apply Kd.R_drewN|apply Kd.R_drew));exact (Kd.R_mono (Kd.R_far (p:=⟨gb581,1,none⟩) (Kd.R_far (p:=⟨gb581,0,none⟩) (Kd.R_types HO569.out BK581.out (by decide)) (fun _ hk => hk.2) (.int .i64 t575)) (fun _ hk => hk.2) (.slice Ao49 t576.length co49)) (fun _ h_ => h_.1))) hb);have n4_:=am (Kd.R_below (by (with_reducible repeat (first|apply Kd.R_alloc|apply Kd.R_drewN|apply Kd.R_drew));exact (Kd.R_mono (Kd.R_far (p:=⟨gb581,1,none⟩) (Kd.R_far (p:=⟨gb581,0,none⟩) (Kd.R_types HO573.out BK581.out (by decide)) (fun _ hk => hk.2) (.int .i64 t575)) (fun _ hk => hk.2) (.slice Ao49 t576.length co49)) (fun _ h_ => h_.1))) hb);have n5_:=am (Kd.R_below (by (with_reducible repeat (first|apply Kd.R_alloc|apply Kd.R_drewN|apply Kd.R_drew));exact (Kd.R_mono (Kd.R_far (p:=⟨gb581,1,none⟩) (Kd.R_far (p:=⟨gb581,0,none⟩) (Kd.R_types HO578.out BK581.out (by decide)) (fun _ hk => hk.2) (.int .i64 t575)) (fun _ hk => hk.2) (.slice Ao49 t576.length co49)) (fun _ h_ => h_.1))) hb);have n6_:=am (blk_below (g:=gb550) (o:=.cells #[.int .i64 a1_0,.slice A1_1 l1_1.length c1_1] 25 (0,0)) (by (with_reducible repeat (first|refine blk_drewN ?_ _|refine blk_drew ?_|refine blk_alloc ?_ _));refine blk_far ?_ NB550_581.out _;(with_reducible repeat (first|refine blk_drewN ?_ _|refine blk_drew ?_|refine blk_alloc ?_ _));refine blk_far ?_ NB550_581.out _;(with_reducible repeat (first|refine blk_drewN ?_ _|refine blk_drew ?_|refine blk_alloc ?_ _));exact BK550.out) hb);have n7_:=am (blk_below (g:=gb566) (o:=.cells #[.int .i64 t560,.slice Ao31 t561.length co31] 30 (0,0)) (by (with_reducible repeat (first|refine blk_drewN ?_ _|refine blk_drew ?_|refine blk_alloc ?_ _));refine blk_far ?_ NB566_581.out _;(with_reducible repeat (first|refine blk_drewN ?_ _|refine blk_drew ?_|refine blk_alloc ?_ _));refine blk_far ?_ NB566_581.out _;(with_reducible repeat (first|refine blk_drewN ?_ _|refine blk_drew ?_|refine blk_alloc ?_ _));exact BK566.out) hb);have n8_:=am (blk_below (g:=gb574) (o:=.cells #[.int .i64 t570,.slice Ao41 t571.length co41] 30 (0,0)) (by (with_reducible repeat (first|refine blk_drewN ?_ _|refine blk_drew ?_|refine blk_alloc ?_ _));refine blk_far ?_ NB574_581.out _;(with_reducible repeat (first|refine blk_drewN ?_ _|refine blk_drew ?_|refine blk_alloc ?_ _));refine blk_far ?_ NB574_581.out _;(with_reducible repeat (first|refine blk_drewN ?_ _|refine blk_drew ?_|refine blk_alloc ?_ _));exact BK574.out) hb);have n9_:=am (blk_below (g:=gb581) (o:=.cells #[.int .i64 t575,.slice Ao49 t576.length co49] 30 (0,0)) (by (with_reducible repeat (first|refine blk_drewN ?_ _|refine blk_drew ?_|refine blk_alloc ?_ _));refine blk_put (cs:=#[.int .i64 t575,.slice none 0 0]) ?_ 1 _ rfl;(with_reducible repeat (first|refine blk_drewN ?_ _|refine blk_drew ?_|refine blk_alloc ?_ _));refine blk_put (cs:=#[.int .i64 0,.slice none 0 0]) ?_ 0 _ rfl;(with_reducible repeat (first|refine blk_drewN ?_ _|refine blk_drew ?_|refine blk_alloc ?_ _));exact BK581.out) hb);have n10_:=am (below_step (by repeat (first|(with_reducible first|exact HB.out|apply below_alloc|apply pw_below_drewN|apply below_drew1|refine below_set ?_ GE550.out|refine below_set ?_ GE566.out|refine below_set ?_ GE574.out|refine below_set ?_ GE581.out)|exact HB.out)) hb);clear HO555 HO559 HO563 HO569 HO573 HO578 BK550 BK566 BK574 BK581 HB;have HO555:=n0_;have HO559:=n1_;have HO563:=n2_;have HO569:=n3_;have HO573:=n4_;have HO578:=n5_;have BK550:=n6_;have BK566:=n7_;have BK574:=n8_;have BK581:=n9_;have HB:=n10_;clear n0_ n1_ n2_ n3_ n4_ n5_ n6_ n7_ n8_ n9_ n10_;(try clear hb);(try clear hb2);(try clear hk);(try clear hi)))
      go_meet
      case rel => exact ⟨_,(true),(by first|rfl|(simp;done)|(simp [*];done)),H',⟨by first|omega|exact Nat.le_refl _⟩,⟨kup (Kd.R_mono HO569.out (fun _ hk => trivial))⟩,⟨kup (Kd.R_mono HO563.out (fun _ hk => ⟨hk.1.2,hk.2⟩))⟩,⟨kup (Kd.R_mono HO573.out (fun _ hk => ⟨hk.1.2,hk.2⟩))⟩,⟨kup (Kd.R_mono HO578.out (fun _ hk => ⟨hk.1.2,hk.2⟩))⟩,⟨bup BK550.out⟩,⟨bup BK566.out⟩,⟨bup BK574.out⟩,⟨bup BK581.out⟩,⟨lup HB.out⟩⟩
    ·replace c51:=Bool.eq_false_iff.mpr c51
     subst c51
     have H1 : (laws_FnExactYoungAlloc.j0 k l0 a2 t564 t565 t567 t579 t580 true a1_0 l1_1 t560 t561 t570 t571 t575 t576) = some r:=by rw [if_neg (show ¬ (false = true) by decide)] at H;exact H
     clear H
     have H:=H1
     clear H1
     have H':=am H
     clear H
     have hnb69:=NB581_550.out
     have hnc69:=NB550_581.out
     have hnb70:=NB581_566.out
     have hnc70:=NB566_581.out
     have hnb71:=NB581_574.out
     have hnc71:=NB574_581.out
     have hcz72_0 : w44.cell? ⟨gb581,0,none⟩ = some (.int .i64 0):=(blk_cell BK581.out 0).trans rfl
     have hcz72_1 : w44.cell? ⟨gb581,1,none⟩ = some (.slice none 0 0):=(blk_cell BK581.out 1).trans rfl
     have hfz72_0:=blk_frozen BK581.out 0
     have hfz72_1:=blk_frozen BK581.out 1
     have hnb73:=NB566_550.out
     have hnc73:=NB550_566.out
     have hnb74:=NB566_574.out
     have hnc74:=NB574_566.out
     have hcz75_0 : w44.cell? ⟨gb566,0,none⟩ = some (.int .i64 t560):=(blk_cell BK566.out 0).trans rfl
     have hcz75_1 : w44.cell? ⟨gb566,1,none⟩ = some (.slice Ao31 t561.length co31):=(blk_cell BK566.out 1).trans rfl
     have hfz75_0:=blk_frozen BK566.out 0
     have hfz75_1:=blk_frozen BK566.out 1
     go_wp2_with (first|((with_reducible refine gate_callee (f:=23) rfl ?_);refine goesL_ (some 56) rfl rfl Tryd.func23 (by kernel_rfl) rfl #[.agg #[.int .i64 t575,.slice Ao49 t576.length co49],.agg #[.int .i64 t560,.slice Ao31 t561.length co31]] rfl (by (try simp only [List.map_toArray,List.map_cons,List.map_nil]);first|done|rfl|(simp only [List.length_drop,List.length_take];rfl)) ?_;(with_reducible refine (laws_eqNursery.calls k t575 _ _ t576 t560 _ _ t561 false _ ?side1 ?side2 ?side3 ?side4 A50.out).mono ?_);(case side1 => refine (Kd.R_reads' (e:=2) (base:=w.heap.size) (ok:=fun k_ => (((True∧some k_≠(v558 : Value).ownBlock)∧some k_≠(.slice Ao31 t561.length co31 : Value).ownBlock)∧some k_≠(.slice Ao41 t571.length co41 : Value).ownBlock)) (n:=t576.length) (c:=co49) ?_).2.2;exact (by (with_reducible repeat (first|apply Kd.R_alloc|apply Kd.R_drewN|apply Kd.R_drew));exact (Kd.R_mono (Kd.R_far (p:=⟨gb581,1,none⟩) (Kd.R_far (p:=⟨gb581,0,none⟩) (Kd.R_types HO578.out BK581.out (by decide)) (fun _ hk => hk.2) (.int .i64 t575)) (fun _ hk => hk.2) (.slice Ao49 t576.length co49)) (fun _ h_ => h_.1))));(case side2 => exact (Kd.R_reads' HO578.out).2.1);(case side3 => refine (Kd.R_reads' (e:=2) (base:=w.heap.size) (ok:=fun k_ => ((some k_≠(v558 : Value).ownBlock∧some k_≠(.slice Ao41 t571.length co41 : Value).ownBlock)∧some k_≠(.slice Ao49 t576.length co49 : Value).ownBlock)) (n:=t561.length) (c:=co31) ?_).2.2;exact (by (with_reducible repeat (first|apply Kd.R_alloc|apply Kd.R_drewN|apply Kd.R_drew));exact (Kd.R_mono (Kd.R_far (p:=⟨gb581,1,none⟩) (Kd.R_far (p:=⟨gb581,0,none⟩) (Kd.R_types HO563.out BK581.out (by decide)) (fun _ hk => hk.2) (.int .i64 t575)) (fun _ hk => hk.2) (.slice Ao49 t576.length co49)) (fun _ h_ => h_.1))));(case side4 => exact (Kd.R_reads' HO563.out).2.1);rintro e w76 ⟨rfl,hb⟩;refine ⟨_,rfl,?_⟩;have n0_:=am (Kd.R_below (by (with_reducible repeat (first|apply Kd.R_alloc|apply Kd.R_drewN|apply Kd.R_drew));exact (Kd.R_mono (Kd.R_far (p:=⟨gb581,1,none⟩) (Kd.R_far (p:=⟨gb581,0,none⟩) (Kd.R_types HO555.out BK581.out (by decide)) (fun _ hk => hk.2) (.int .i64 t575)) (fun _ hk => hk.2) (.slice Ao49 t576.length co49)) (fun _ h_ => h_.1))) hb);have n1_:=am (Kd.R_below (by (with_reducible repeat (first|apply Kd.R_alloc|apply Kd.R_drewN|apply Kd.R_drew));exact (Kd.R_mono (Kd.R_far (p:=⟨gb581,1,none⟩) (Kd.R_far (p:=⟨gb581,0,none⟩) (Kd.R_types HO559.out BK581.out (by decide)) (fun _ hk => hk.2) (.int .i64 t575)) (fun _ hk => hk.2) (.slice Ao49 t576.length co49)) (fun _ h_ => h_.1))) hb);have n2_:=am (Kd.R_below (by (with_reducible repeat (first|apply Kd.R_alloc|apply Kd.R_drewN|apply Kd.R_drew));exact (Kd.R_mono (Kd.R_far (p:=⟨gb581,1,none⟩) (Kd.R_far (p:=⟨gb581,0,none⟩) (Kd.R_types HO563.out BK581.out (by decide)) (fun _ hk => hk.2) (.int .i64 t575)) (fun _ hk => hk.2) (.slice Ao49 t576.length co49)) (fun _ h_ => h_.1))) hb);have n3_:=am (Kd.R_below (by (with_reducible repeat (first|apply Kd.R_alloc|apply Kd.R_drewN|apply Kd.R_drew));exact (Kd.R_mono (Kd.R_far (p:=⟨gb581,1,none⟩) (Kd.R_far (p:=⟨gb581,0,none⟩) (Kd.R_types HO569.out BK581.out (by decide)) (fun _ hk => hk.2) (.int .i64 t575)) (fun _ hk => hk.2) (.slice Ao49 t576.length co49)) (fun _ h_ => h_.1))) hb);have n4_:=am (Kd.R_below (by (with_reducible repeat (first|apply Kd.R_alloc|apply Kd.R_drewN|apply Kd.R_drew));exact (Kd.R_mono (Kd.R_far (p:=⟨gb581,1,none⟩) (Kd.R_far (p:=⟨gb581,0,none⟩) (Kd.R_types HO573.out BK581.out (by decide)) (fun _ hk => hk.2) (.int .i64 t575)) (fun _ hk => hk.2) (.slice Ao49 t576.length co49)) (fun _ h_ => h_.1))) hb);have n5_:=am (Kd.R_below (by (with_reducible repeat (first|apply Kd.R_alloc|apply Kd.R_drewN|apply Kd.R_drew));exact (Kd.R_mono (Kd.R_far (p:=⟨gb581,1,none⟩) (Kd.R_far (p:=⟨gb581,0,none⟩) (Kd.R_types HO578.out BK581.out (by decide)) (fun _ hk => hk.2) (.int .i64 t575)) (fun _ hk => hk.2) (.slice Ao49 t576.length co49)) (fun _ h_ => h_.1))) hb);have n6_:=am (blk_below (g:=gb550) (o:=.cells #[.int .i64 a1_0,.slice A1_1 l1_1.length c1_1] 25 (0,0)) (by (with_reducible repeat (first|refine blk_drewN ?_ _|refine blk_drew ?_|refine blk_alloc ?_ _));refine blk_far ?_ NB550_581.out _;(with_reducible repeat (first|refine blk_drewN ?_ _|refine blk_drew ?_|refine blk_alloc ?_ _));refine blk_far ?_ NB550_581.out _;(with_reducible repeat (first|refine blk_drewN ?_ _|refine blk_drew ?_|refine blk_alloc ?_ _));exact BK550.out) hb);have n7_:=am (blk_below (g:=gb566) (o:=.cells #[.int .i64 t560,.slice Ao31 t561.length co31] 30 (0,0)) (by (with_reducible repeat (first|refine blk_drewN ?_ _|refine blk_drew ?_|refine blk_alloc ?_ _));refine blk_far ?_ NB566_581.out _;(with_reducible repeat (first|refine blk_drewN ?_ _|refine blk_drew ?_|refine blk_alloc ?_ _));refine blk_far ?_ NB566_581.out _;(with_reducible repeat (first|refine blk_drewN ?_ _|refine blk_drew ?_|refine blk_alloc ?_ _));exact BK566.out) hb);have n8_:=am (blk_below (g:=gb574) (o:=.cells #[.int .i64 t570,.slice Ao41 t571.length co41] 30 (0,0)) (by (with_reducible repeat (first|refine blk_drewN ?_ _|refine blk_drew ?_|refine blk_alloc ?_ _));refine blk_far ?_ NB574_581.out _;(with_reducible repeat (first|refine blk_drewN ?_ _|refine blk_drew ?_|refine blk_alloc ?_ _));refine blk_far ?_ NB574_581.out _;(with_reducible repeat (first|refine blk_drewN ?_ _|refine blk_drew ?_|refine blk_alloc ?_ _));exact BK574.out) hb);have n9_:=am (blk_below (g:=gb581) (o:=.cells #[.int .i64 t575,.slice Ao49 t576.length co49] 30 (0,0)) (by (with_reducible repeat (first|refine blk_drewN ?_ _|refine blk_drew ?_|refine blk_alloc ?_ _));refine blk_put (cs:=#[.int .i64 t575,.slice none 0 0]) ?_ 1 _ rfl;(with_reducible repeat (first|refine blk_drewN ?_ _|refine blk_drew ?_|refine blk_alloc ?_ _));refine blk_put (cs:=#[.int .i64 0,.slice none 0 0]) ?_ 0 _ rfl;(with_reducible repeat (first|refine blk_drewN ?_ _|refine blk_drew ?_|refine blk_alloc ?_ _));exact BK581.out) hb);have n10_:=am (below_step (by repeat (first|(with_reducible first|exact HB.out|apply below_alloc|apply pw_below_drewN|apply below_drew1|refine below_set ?_ GE550.out|refine below_set ?_ GE566.out|refine below_set ?_ GE574.out|refine below_set ?_ GE581.out)|exact HB.out)) hb);clear HO555 HO559 HO563 HO569 HO573 HO578 BK550 BK566 BK574 BK581 HB;have HO555:=n0_;have HO559:=n1_;have HO563:=n2_;have HO569:=n3_;have HO573:=n4_;have HO578:=n5_;have BK550:=n6_;have BK566:=n7_;have BK574:=n8_;have BK581:=n9_;have HB:=n10_;clear n0_ n1_ n2_ n3_ n4_ n5_ n6_ n7_ n8_ n9_ n10_;(try clear hb);(try clear hb2);(try clear hk);(try clear hi)))
     go_meet
     case rel => exact ⟨_,(true),(by first|rfl|(simp;done)|(simp [*];done)),H',⟨by first|omega|exact Nat.le_refl _⟩,⟨kup (Kd.R_mono HO569.out (fun _ hk => trivial))⟩,⟨kup (Kd.R_mono HO563.out (fun _ hk => ⟨hk.1.2,hk.2⟩))⟩,⟨kup (Kd.R_mono HO573.out (fun _ hk => ⟨hk.1.2,hk.2⟩))⟩,⟨kup (Kd.R_mono HO578.out (fun _ hk => ⟨hk.1.2,hk.2⟩))⟩,⟨bup BK550.out⟩,⟨bup BK566.out⟩,⟨bup BK574.out⟩,⟨bup BK581.out⟩,⟨lup HB.out⟩⟩
   case rest =>
    clear HC18
    try clear c1
    try clear c2
    try clear p2
    try clear c3
    try clear c4
    try clear c5
    try clear c6
    try clear c7
    try clear c19
    try clear c20
    try clear c23
    try clear c34
    try clear c38
    try clear c39
    try clear c45
    try clear c46
    try clear c47
    try clear c51
    try clear c52
    try clear c52b0
    try clear c52b1
    try clear c53
    try clear c54
    try clear c55
    try clear c57
    try clear c58
    try clear c61
    try clear c62
    try clear c63
    try clear c65
    try clear c66
    try clear c69
    try clear c70
    try clear c71
    try clear c73
    try clear c74
    try clear hcz35_0
    try clear hcz35_1
    try clear hcz40_0
    try clear hcz40_1
    try clear hcz48_0
    try clear hcz48_1
    try clear hcz56_0
    try clear hcz56_1
    try clear hcz59_0
    try clear hcz59_1
    try clear hcz64_0
    try clear hcz64_1
    try clear hcz67_0
    try clear hcz67_1
    try clear hcz72_0
    try clear hcz72_1
    try clear hcz75_0
    try clear hcz75_1
    try clear hfz35_0
    try clear hfz35_1
    try clear hfz40_0
    try clear hfz40_1
    try clear hfz48_0
    try clear hfz48_1
    try clear hfz56_0
    try clear hfz56_1
    try clear hfz59_0
    try clear hfz59_1
    try clear hfz64_0
    try clear hfz64_1
    try clear hfz67_0
    try clear hfz67_1
    try clear hfz72_0
    try clear hfz72_1
    try clear hfz75_0
    try clear hfz75_1
    obtain ⟨kq,x67_17,rfl,HA,HJ17,HO_11,HO_567001,HO_575001,HO_582001,BK550,BK566,BK574,BK581,HB⟩:=hcut
    cases kq with
    | zero => exact absurd HA.out (by simp [laws_FnExactYoungAlloc.j0])
    | succ kj17 =>
     have H:=HA.out
     clear HA
     simp only [laws_FnExactYoungAlloc.j0] at H
     by_cases c77 : x67_17 = true
     ·subst c77
      have H1:=H;rw [if_pos rfl] at H1
      clear H
      have H:=H1
      clear H1
      obtain rfl:=Option.some.inj H
      go_wp2
      go_ret
      exact ⟨by first|rfl|(simp [errW_none,errW_some] <;> rfl)|(simp [*,errW_none,errW_some] <;> rfl),by repeat (first|(with_reducible first|exact HB.out|apply below_alloc|apply pw_below_drewN|apply below_drew1|refine below_set ?_ GE550.out|refine below_set ?_ GE566.out|refine below_set ?_ GE574.out|refine below_set ?_ GE581.out)|exact HB.out)⟩
     ·replace c77:=Bool.eq_false_iff.mpr c77
      subst c77
      have H1 : ((laws_toStringS.f kj17 l0).bind fun t583 => ((laws_eqStringS.f kj17 t567 t583).bind fun t586 => (if t586 = true then ((laws_toNursery.f kj17 a1_0 l1_1).bind fun bt587 => ((laws_eqNursery.f kj17 t570 t571 bt587.1 bt587.2).bind fun t591 => (if t591 = true then ((laws_markStringS.f kj17 t567 1).bind fun bt592 => ((laws_markNursery.f kj17 t570 t571 bt592.1).bind fun bt594 => (if bt594.1 < 0 then (laws_FnExactYoungAlloc.j1 kj17 l0 a2 t564 t565 true a1_0 l1_1 t560 t561 t575 t576) else ((laws_eqNursery.f kj17 t575 t576 t560 t561).bind fun t596 => (if t596 = true then (if t579 = t564 then (laws_FnExactYoungAlloc.j1 kj17 l0 a2 t564 t565 (t580 != t565) a1_0 l1_1 t560 t561 t575 t576) else (laws_FnExactYoungAlloc.j1 kj17 l0 a2 t564 t565 true a1_0 l1_1 t560 t561 t575 t576)) else (laws_FnExactYoungAlloc.j1 kj17 l0 a2 t564 t565 true a1_0 l1_1 t560 t561 t575 t576)))))) else (some false)))) else (some false)))) = some r:=by rw [if_neg (show ¬ (false = true) by decide)] at H;exact H
      clear H
      have H:=H1
      clear H1
      replace H:=Option.bind_eq_some_iff.mp H
      obtain ⟨t583,A780,H⟩:=H
      try dsimp only at H
      have A78:=am A780
      clear A780
      replace H:=Option.bind_eq_some_iff.mp H
      obtain ⟨t586,A790,H⟩:=H
      try dsimp only at H
      have A79:=am A790
      clear A790
      by_cases c80 : t586 = true
      ·subst c80
       have H1:=H;rw [if_pos rfl] at H1
       clear H
       have H:=H1
       clear H1
       replace H:=Option.bind_eq_some_iff.mp H
       obtain ⟨⟨t587,t588⟩,A810,H⟩:=H
       try dsimp only at H
       have A81:=am A810
       clear A810
       replace H:=Option.bind_eq_some_iff.mp H
       obtain ⟨t591,A820,H⟩:=H
       try dsimp only at H
       have A82:=am A820
       clear A820
       by_cases c83 : t591 = true
       ·subst c83
        have H1:=H;rw [if_pos rfl] at H1
        clear H
        have H:=H1
        clear H1
        replace H:=Option.bind_eq_some_iff.mp H
        obtain ⟨⟨t592,t593⟩,A840,H⟩:=H
        try dsimp only at H
        have A84:=am A840
        clear A840
        replace H:=Option.bind_eq_some_iff.mp H
        obtain ⟨⟨t594,t595⟩,A850,H⟩:=H
        try dsimp only at H
        have A85:=am A850
        clear A850
        have HC86:=am H
        clear H
        try go_wp2_with (first|((with_reducible refine gate_callee (f:=19) rfl ?_);refine goesL_ (some 70) rfl rfl Tryd.func19 (by kernel_rfl) rfl #[.slice A0 l0.length c0] rfl (by (try simp only [List.map_toArray,List.map_cons,List.map_nil]);first|done|rfl|(simp only [List.length_drop,List.length_take];rfl)) ?_;(with_reducible refine (laws_toStringS.calls kj17 _ _ l0 t583 _ ?side1 ?side2 A78.out).mono ?_);(case side1 => repeat (first|exact (Kd.C_below HR0.out HB.out)|(with_reducible first|refine Kd.C_alloc ?_ _|refine Kd.C_drewN ?_ _|refine Kd.C_drew ?_)));(case side2 => exact HC0.out);rintro e w87 ⟨v584,rfl,ho0,hb⟩;refine ⟨_,rfl,?_⟩;have n0_:=am (Kd.R_elder' (kup HO_11.out) (Kd.R_base ho0) hb);have n1_:=am (Kd.R_below (kup HO_567001.out) hb);have n2_:=am (Kd.R_below (kup HO_575001.out) hb);have n3_:=am (Kd.R_below (kup HO_582001.out) hb);have n4_:=am (Kd.R_lower (Kd.R_new' ho0 (Kd.R_lt (kup HO_11.out))) (below_size (lup HB.out)));have n5_:=am (blk_below (bup BK550.out) hb);have n6_:=am (blk_below (bup BK566.out) hb);have n7_:=am (blk_below (bup BK574.out) hb);have n8_:=am (blk_below (bup BK581.out) hb);have n9_:=am (below_step (lup HB.out) hb);clear HO_11 HO_567001 HO_575001 HO_582001 BK550 BK566 BK574 BK581 HB;have HO_11:=n0_;have HO_567001:=n1_;have HO_575001:=n2_;have HO_582001:=n3_;have HO585:=n4_;have BK550:=n5_;have BK566:=n6_;have BK574:=n7_;have BK581:=n8_;have HB:=n9_;clear n0_ n1_ n2_ n3_ n4_ n5_ n6_ n7_ n8_ n9_;(try clear hb);(try clear hb2);(try clear hk);(try clear hi);(try clear ho0);obtain ⟨Ao88,co88,eo88⟩:=Kd.R_slice HO585.out;subst eo88)|((with_reducible refine gate_callee (f:=22) rfl ?_);refine goesL_ (some 71) rfl rfl Tryd.func22 (by kernel_rfl) rfl #[.slice Ao42 t567.length co42,.slice Ao88 t583.length co88] rfl (by (try simp only [List.map_toArray,List.map_cons,List.map_nil]);first|done|rfl|(simp only [List.length_drop,List.length_take];rfl)) ?_;(with_reducible refine (laws_eqStringS.calls kj17 _ _ t567 _ _ t583 true _ ?side1 ?side2 ?side3 ?side4 A79.out).mono ?_);(case side1 => repeat (first|exact (Kd.R_reads' HO_11.out).2.2|(with_reducible first|refine Kd.C_alloc ?_ _|refine Kd.C_drewN ?_ _|refine Kd.C_drew ?_)));(case side2 => exact (Kd.R_reads' HO_11.out).2.1);(case side3 => repeat (first|exact (Kd.R_reads' HO585.out).2.2|(with_reducible first|refine Kd.C_alloc ?_ _|refine Kd.C_drewN ?_ _|refine Kd.C_drew ?_)));(case side4 => exact (Kd.R_reads' HO585.out).2.1);rintro e w' ⟨rfl,⟨nd,rfl⟩⟩;refine ⟨_,rfl,?_⟩))
        (try (rw [drewN_self w87];generalize hq_ : World.drewN w87 _ = w87;have n0_ : Aside0 (Kd.R Kd.string 9 w87 w.heap.size (fun k_ => some k_≠(.slice Ao42 t567.length co42 : Value).ownBlock) (.slice Ao88 t583.length co88) t583):=⟨by rw [← hq_];exact (kup (Kd.R_mono HO585.out (fun _ hk => hk.2)))⟩;have n1_ : Aside0 (Kd.R Kd.string 9 w87 w.heap.size (fun k_ => some k_≠(.slice Ao88 t583.length co88 : Value).ownBlock) (.slice Ao42 t567.length co42) t567):=⟨by rw [← hq_];exact (kup (Kd.R_mono HO_11.out (fun _ hk => hk.2)))⟩;have n2_ : Aside0 (Kd.R (Kd.int .i64) 2 w87 w.heap.size (fun k_ => some k_≠(.slice Ao41 t571.length co41 : Value).ownBlock∧some k_≠(.slice Ao49 t576.length co49 : Value).ownBlock) (.slice Ao31 t561.length co31) t561):=⟨by rw [← hq_];exact (kup HO_567001.out)⟩;have n3_ : Aside0 (Kd.R (Kd.int .i64) 2 w87 w.heap.size (fun k_ => some k_≠(.slice Ao31 t561.length co31 : Value).ownBlock∧some k_≠(.slice Ao49 t576.length co49 : Value).ownBlock) (.slice Ao41 t571.length co41) t571):=⟨by rw [← hq_];exact (kup HO_575001.out)⟩;have n4_ : Aside0 (Kd.R (Kd.int .i64) 2 w87 w.heap.size (fun k_ => some k_≠(.slice Ao31 t561.length co31 : Value).ownBlock∧some k_≠(.slice Ao41 t571.length co41 : Value).ownBlock) (.slice Ao49 t576.length co49) t576):=⟨by rw [← hq_];exact (kup HO_582001.out)⟩;have n5_ : Aside0 (w87.heap[gb550]? = some (.cells #[.int .i64 a1_0,.slice A1_1 l1_1.length c1_1] 25 (0,0))):=⟨by rw [← hq_];exact (bup BK550.out)⟩;have n6_ : Aside0 (w87.heap[gb566]? = some (.cells #[.int .i64 t560,.slice Ao31 t561.length co31] 30 (0,0))):=⟨by rw [← hq_];exact (bup BK566.out)⟩;have n7_ : Aside0 (w87.heap[gb574]? = some (.cells #[.int .i64 t570,.slice Ao41 t571.length co41] 30 (0,0))):=⟨by rw [← hq_];exact (bup BK574.out)⟩;have n8_ : Aside0 (w87.heap[gb581]? = some (.cells #[.int .i64 t575,.slice Ao49 t576.length co49] 30 (0,0))):=⟨by rw [← hq_];exact (bup BK581.out)⟩;have n9_ : Aside0 (Below w.heap.size w w87):=⟨by rw [← hq_];exact (lup HB.out)⟩;clear HO585 HO_11 HO_567001 HO_575001 HO_582001 BK550 BK566 BK574 BK581 HB hq_;have HO585:=n0_;have HO_11:=n1_;have HO_567001:=n2_;have HO_575001:=n3_;have HO_582001:=n4_;have BK550:=n5_;have BK566:=n6_;have BK574:=n7_;have BK581:=n8_;have HB:=n9_;clear n0_ n1_ n2_ n3_ n4_ n5_ n6_ n7_ n8_ n9_))
        have n0_:=am (Kd.R_drew HO_11.out)
        have n1_:=am (Kd.R_drew HO_567001.out)
        have n2_:=am (Kd.R_drew HO_575001.out)
        have n3_:=am (Kd.R_drew HO_582001.out)
        have n4_:=am (Kd.R_drew HO585.out)
        have n5_:=am (blk_drew BK550.out)
        have n6_:=am (blk_drew BK566.out)
        have n7_:=am (blk_drew BK574.out)
        have n8_:=am (blk_drew BK581.out)
        have n9_:=am (below_drew1 HB.out)
        clear HO_11
        clear HO_567001
        clear HO_575001
        clear HO_582001
        clear HO585
        clear BK550
        clear BK566
        clear BK574
        clear BK581
        clear HB
        have HO_11:=n0_
        have HO_567001:=n1_
        have HO_575001:=n2_
        have HO_582001:=n3_
        have HO585:=n4_
        have BK550:=n5_
        have BK566:=n6_
        have BK574:=n7_
        have BK581:=n8_
        have HB:=n9_
        clear n0_ n1_ n2_ n3_ n4_ n5_ n6_ n7_ n8_ n9_
        refine start_ (n:=5) (S:=fun w' => w'.cell? ⟨gb574,0,none⟩ = some (.int .i64 t570)∧w'.cell? ⟨gb574,1,none⟩ = some (.slice Ao41 t571.length co41)∧w'.cell? ⟨gb550,0,none⟩ = some (.int .i64 a1_0)∧w'.cell? ⟨gb550,1,none⟩ = some (.slice A1_1 l1_1.length c1_1)) (ds:=[]) #[false,false,false,false,false] (by kernel_rfl) rfl rfl ⟨(blk_cell BK574.out 0).trans rfl,(blk_cell BK574.out 1).trans rfl,(blk_cell BK550.out 0).trans rfl,(blk_cell BK550.out 1).trans rfl⟩ (fun hHeld => ?_)
        generalize w87.drew = w89 at HO_11 HO_567001 HO_575001 HO_582001 HO585 BK550 BK566 BK574 BK581 HB hHeld ⊢
        refine take_ (i:=0) (N:=some 73) (v:=?_) (a':=?_) #[true,false,false,false,false] rfl rfl (by kernel_rfl) (fun _ _ _ h => h) (Or.inl ⟨by rfl,?_⟩) hHeld ?_ ?_
        rotate_left
        ·rintro w' ⟨s0,s1,s2,s3⟩
         go_simp
         with_reducible rfl
        rotate_left
        ·simp only [Act.put,List.setIfInBounds_toArray,List.set_cons_zero,List.set_cons_succ,i64_w,i32_w]
         rfl
        refine take_ (i:=1) (N:=some 74) (v:=?_) (a':=?_) #[true,true,false,false,false] rfl rfl (by kernel_rfl) (fun _ _ _ h => h) (Or.inl ⟨by rfl,?_⟩) hHeld ?_ ?_
        rotate_left
        ·rintro w' ⟨s0,s1,s2,s3⟩
         go_simp
         with_reducible rfl
        rotate_left
        ·simp only [Act.put,List.setIfInBounds_toArray,List.set_cons_zero,List.set_cons_succ,i64_w,i32_w]
         rfl
        refine one_ (i:=2) (N:=some 75) #[true,true,true,false,false] rfl rfl (by kernel_rfl) (by decide) (fun K hK => ?_)
        refine goes_ Tryd.func20 (by kernel_rfl) rfl #[.agg #[.int .i64 a1_0,.slice A1_1 l1_1.length c1_1]] (by rfl) rfl rfl (by (try simp only [List.map_toArray,List.map_cons,List.map_nil]);first|done|rfl|(simp only [List.length_drop,List.length_take];rfl)) ?_
        with_reducible refine (laws_toNursery.calls kj17 a1_0 _ _ l1_1 t587 t588 _ ?side1 ?side2 A81.out).mono ?_
        (case side1 => repeat (first|exact (Kd.C_below HR1_1.out HB.out)|(with_reducible first|refine Kd.C_alloc ?_ _|refine Kd.C_drewN ?_ _|refine Kd.C_drew ?_)))
        (case side2 => exact HC1_1.out)
        rintro e w90 ⟨v589,rfl,ho0,hb⟩
        refine ⟨_,rfl,?_⟩
        have n0_:=am (Kd.R_below (kup HO_11.out) hb)
        have n1_:=am (Kd.R_elder' (kup HO_567001.out) (Kd.R_base ho0) hb)
        have n2_:=am (Kd.R_elder' (kup HO_575001.out) (Kd.R_base ho0) hb)
        have n3_:=am (Kd.R_elder' (kup HO_582001.out) (Kd.R_base ho0) hb)
        have n4_:=am (Kd.R_below (kup HO585.out) hb)
        have n5_:=am (Kd.R_lower (Kd.R_new' (Kd.R_new' (Kd.R_new' ho0 (Kd.R_lt (kup HO_567001.out))) (Kd.R_lt (kup HO_575001.out))) (Kd.R_lt (kup HO_582001.out))) (below_size (lup HB.out)))
        have n6_:=am (blk_below (bup BK550.out) hb)
        have n7_:=am (blk_below (bup BK566.out) hb)
        have n8_:=am (blk_below (bup BK574.out) hb)
        have n9_:=am (blk_below (bup BK581.out) hb)
        have n10_:=am (below_step (lup HB.out) hb)
        clear HO_11
        clear HO_567001
        clear HO_575001
        clear HO_582001
        clear HO585
        clear BK550
        clear BK566
        clear BK574
        clear BK581
        clear HB
        have HO_11:=n0_
        have HO_567001:=n1_
        have HO_575001:=n2_
        have HO_582001:=n3_
        have HO585:=n4_
        have HO590:=n5_
        have BK550:=n6_
        have BK566:=n7_
        have BK574:=n8_
        have BK581:=n9_
        have HB:=n10_
        clear n0_ n1_ n2_ n3_ n4_ n5_ n6_ n7_ n8_ n9_ n10_
        (try clear hb)
        (try clear hb2)
        (try clear hk)
        (try clear hi)
        (try clear ho0)
        obtain ⟨Ao91,co91,eo91⟩:=Kd.R_slice HO590.out
        (first|subst eo91|(injection eo91 with f1_ f2_ f3_;have f4_:=f1_.symm;have f5_:=f3_.symm;clear f1_ f2_ f3_;subst f4_;subst f5_))
        refine hK.out _ _ ⟨(blk_cell BK574.out 0).trans rfl,(blk_cell BK574.out 1).trans rfl,(blk_cell BK550.out 0).trans rfl,(blk_cell BK550.out 1).trans rfl⟩ (fun hHeld => ?_)
        clear hK K
        refine norm_ (a':=?_) ?_ ?_
        rotate_left
        ·show Act.put _ (some 75) _ = _
         simp only [Act.put,List.setIfInBounds_toArray,List.set_cons_zero,List.set_cons_succ,i64_w,i32_w]
         rfl
        refine one_ (i:=3) (N:=some 76) #[true,true,true,true,false] rfl rfl (by kernel_rfl) (by decide) (fun K hK => ?_)
        refine goes_ Tryd.func23 (by kernel_rfl) rfl #[.agg #[.int .i64 t570,.slice Ao41 t571.length co41],.agg #[.int .i64 t587,.slice Ao91 t588.length co91]] (by rfl) rfl rfl (by (try simp only [List.map_toArray,List.map_cons,List.map_nil]);first|done|rfl|(simp only [List.length_drop,List.length_take];rfl)) ?_
        with_reducible refine (laws_eqNursery.calls kj17 t570 _ _ t571 t587 _ _ t588 true _ ?side1 ?side2 ?side3 ?side4 A82.out).mono ?_
        (case side1 => repeat (first|exact (Kd.R_reads' HO_575001.out).2.2|(with_reducible first|refine Kd.C_alloc ?_ _|refine Kd.C_drewN ?_ _|refine Kd.C_drew ?_)))
        (case side2 => exact (Kd.R_reads' HO_575001.out).2.1)
        (case side3 => repeat (first|exact (Kd.R_reads' HO590.out).2.2|(with_reducible first|refine Kd.C_alloc ?_ _|refine Kd.C_drewN ?_ _|refine Kd.C_drew ?_)))
        (case side4 => exact (Kd.R_reads' HO590.out).2.1)
        rintro e w92 ⟨rfl,hb⟩
        refine ⟨_,rfl,?_⟩
        have n0_:=am (Kd.R_below (kup HO_11.out) hb)
        have n1_:=am (Kd.R_below (kup HO_567001.out) hb)
        have n2_:=am (Kd.R_below (kup HO_575001.out) hb)
        have n3_:=am (Kd.R_below (kup HO_582001.out) hb)
        have n4_:=am (Kd.R_below (kup HO585.out) hb)
        have n5_:=am (Kd.R_below (kup HO590.out) hb)
        have n6_:=am (blk_below (bup BK550.out) hb)
        have n7_:=am (blk_below (bup BK566.out) hb)
        have n8_:=am (blk_below (bup BK574.out) hb)
        have n9_:=am (blk_below (bup BK581.out) hb)
        have n10_:=am (below_step (lup HB.out) hb)
        clear HO_11
        clear HO_567001
        clear HO_575001
        clear HO_582001
        clear HO585
        clear HO590
        clear BK550
        clear BK566
        clear BK574
        clear BK581
        clear HB
        have HO_11:=n0_
        have HO_567001:=n1_
        have HO_575001:=n2_
        have HO_582001:=n3_
        have HO585:=n4_
        have HO590:=n5_
        have BK550:=n6_
        have BK566:=n7_
        have BK574:=n8_
        have BK581:=n9_
        have HB:=n10_
        clear n0_ n1_ n2_ n3_ n4_ n5_ n6_ n7_ n8_ n9_ n10_
        (try clear hb)
        (try clear hb2)
        (try clear hk)
        (try clear hi)
        refine hK.out _ _ ⟨(blk_cell BK574.out 0).trans rfl,(blk_cell BK574.out 1).trans rfl,(blk_cell BK550.out 0).trans rfl,(blk_cell BK550.out 1).trans rfl⟩ (fun hHeld => ?_)
        clear hK K
        refine norm_ (a':=?_) ?_ ?_
        rotate_left
        ·show Act.put _ (some 76) _ = _
         simp only [Act.put,List.setIfInBounds_toArray,List.set_cons_zero,List.set_cons_succ,i64_w,i32_w]
         rfl
        refine pure_ (i:=4) (N:=some 77) (v:=?_) (a':=?_) #[true,true,true,true,true] rfl rfl (by kernel_rfl) (fun _ _ _ h => h) (Or.inl ⟨by rfl,?_⟩) ?_ ?_
        rotate_left
        ·intro w'
         go_simp
         with_reducible rfl
        rotate_left
        ·simp only [Act.put,List.setIfInBounds_toArray,List.set_cons_zero,List.set_cons_succ,i64_w,i32_w]
         rfl
        refine done_ (by kernel_rfl) ?_
        go_upto_region 21 with (first|((with_reducible refine gate_callee (f:=27) rfl ?_);refine goesL_ (some 80) rfl rfl Tryd.func27 (by kernel_rfl) rfl #[.slice Ao42 t567.length co42,.int .i64 1] rfl (by (try simp only [List.map_toArray,List.map_cons,List.map_nil]);first|done|rfl|(simp only [List.length_drop,List.length_take];rfl)) ?_;(with_reducible refine (laws_markStringS.calls kj17 (fun k_ => some k_ = (.slice Ao42 t567.length co42 : Value).ownBlock) (.slice Ao42 t567.length co42) t567 1 t592 t593 w _ ?side1 ?side2 A84.out).mono ?_);(case side1 => repeat (first|(with_reducible first|exact HB.out|apply below_alloc|apply pw_below_drewN|apply below_drew1|refine below_set ?_ GE550.out|refine below_set ?_ GE566.out|refine below_set ?_ GE574.out|refine below_set ?_ GE581.out)|exact HB.out));(case side2 => exact Kd.R_tight rfl HO_11.out);rintro e w93 ⟨rfl,hy0,hb,hkp⟩;refine ⟨_,rfl,?_⟩;have n0_:=am (Kd.R_reok rfl hy0 (fun k_ e_ => HO_11.out.1 k_ e_));have n1_:=am (Kd.R_mono (ok':=fun k_ => some k_≠(.slice Ao41 t571.length co41 : Value).ownBlock∧some k_≠(.slice Ao49 t576.length co49 : Value).ownBlock∧some k_≠(.slice Ao91 t588.length co91 : Value).ownBlock) (Kd.R_keptB ((Kd.R_apart' HO_567001.out (Kd.R_typed HO_11.out) (by decide))) hkp (fun k_ hk_ hs_ => by first|exact hk_.2 hs_|exact hk_ hs_)) (fun k_ hk_ => by first|exact ⟨hk_.1.1.1.1,hk_.1.1.1.2,hk_.1.1.2⟩|(simp only [and_assoc] at hk_;exact ⟨hk_.1,hk_.2.1,hk_.2.2.1⟩)));have n2_:=am (Kd.R_mono (ok':=fun k_ => some k_≠(.slice Ao31 t561.length co31 : Value).ownBlock∧some k_≠(.slice Ao49 t576.length co49 : Value).ownBlock∧some k_≠(.slice Ao91 t588.length co91 : Value).ownBlock) (Kd.R_keptB ((Kd.R_apart' HO_575001.out (Kd.R_typed HO_11.out) (by decide))) hkp (fun k_ hk_ hs_ => by first|exact hk_.2 hs_|exact hk_ hs_)) (fun k_ hk_ => by first|exact ⟨hk_.1.1.1.1,hk_.1.1.1.2,hk_.1.1.2⟩|(simp only [and_assoc] at hk_;exact ⟨hk_.1,hk_.2.1,hk_.2.2.1⟩)));have n3_:=am (Kd.R_mono (ok':=fun k_ => some k_≠(.slice Ao31 t561.length co31 : Value).ownBlock∧some k_≠(.slice Ao41 t571.length co41 : Value).ownBlock∧some k_≠(.slice Ao91 t588.length co91 : Value).ownBlock) (Kd.R_keptB ((Kd.R_apart' HO_582001.out (Kd.R_typed HO_11.out) (by decide))) hkp (fun k_ hk_ hs_ => by first|exact hk_.2 hs_|exact hk_ hs_)) (fun k_ hk_ => by first|exact ⟨hk_.1.1.1.1,hk_.1.1.1.2,hk_.1.1.2⟩|(simp only [and_assoc] at hk_;exact ⟨hk_.1,hk_.2.1,hk_.2.2.1⟩)));have n4_:=am (blk_kept (bup BK550.out) hkp (fun hs_ => (fun e_ => (Kd.R_ne HO_11.out BK550.out (by decide)) e_) hs_));have n5_:=am (blk_kept (bup BK566.out) hkp (fun hs_ => (fun e_ => (Kd.R_ne HO_11.out BK566.out (by decide)) e_) hs_));have n6_:=am (blk_kept (bup BK574.out) hkp (fun hs_ => (fun e_ => (Kd.R_ne HO_11.out BK574.out (by decide)) e_) hs_));have n7_:=am (blk_kept (bup BK581.out) hkp (fun hs_ => (fun e_ => (Kd.R_ne HO_11.out BK581.out (by decide)) e_) hs_));have n8_:=am (Kd.R_mono (ok':=fun k_ => some k_≠(.slice Ao42 t567.length co42 : Value).ownBlock) (Kd.R_keptB (HO585.out) hkp (fun k_ hk_ hs_ => by first|exact hk_.2 hs_|exact hk_ hs_)) (fun k_ hk_ => by first|exact hk_.1.2|exact hk_.1|exact hk_.1.1));have n9_:=am (Kd.R_mono (ok':=fun k_ => some k_≠(.slice Ao31 t561.length co31 : Value).ownBlock∧some k_≠(.slice Ao41 t571.length co41 : Value).ownBlock∧some k_≠(.slice Ao49 t576.length co49 : Value).ownBlock) (Kd.R_keptB ((Kd.R_apart' HO590.out (Kd.R_typed HO_11.out) (by decide))) hkp (fun k_ hk_ hs_ => by first|exact hk_.2 hs_|exact hk_ hs_)) (fun k_ hk_ => by first|exact ⟨hk_.1.1.1.1.2,hk_.1.1.1.2,hk_.1.1.2⟩|(simp only [and_assoc] at hk_;exact ⟨hk_.1,hk_.2.1,hk_.2.2.1⟩)));have n10_:=am (hb);clear HO_11 HO_567001 HO_575001 HO_582001 BK550 BK566 BK574 BK581 HO585 HO590 HB;have HO_11:=n0_;have HO_567001:=n1_;have HO_575001:=n2_;have HO_582001:=n3_;have BK550:=n4_;have BK566:=n5_;have BK574:=n6_;have BK581:=n7_;have HO585:=n8_;have HO590:=n9_;have HB:=n10_;clear n0_ n1_ n2_ n3_ n4_ n5_ n6_ n7_ n8_ n9_ n10_;(try clear hb);(try clear hkp);(try clear hy0);have hnb94:=NB574_550.out;have hnc94:=NB550_574.out;have hnb95:=NB574_566.out;have hnc95:=NB566_574.out;have hnb96:=NB574_581.out;have hnc96:=NB581_574.out;have hcz97_0 : w93.cell? ⟨gb574,0,none⟩ = some (.int .i64 t570):=(blk_cell BK574.out 0).trans rfl;have hcz97_1 : w93.cell? ⟨gb574,1,none⟩ = some (.slice Ao41 t571.length co41):=(blk_cell BK574.out 1).trans rfl;have hfz97_0:=blk_frozen BK574.out 0;have hfz97_1:=blk_frozen BK574.out 1)|((with_reducible refine gate_callee (f:=28) rfl ?_);refine goesL_ (some 83) rfl rfl Tryd.func28 (by kernel_rfl) rfl #[.agg #[.int .i64 t570,.slice Ao41 t571.length co41],.int .i64 t592] rfl (by (try simp only [List.map_toArray,List.map_cons,List.map_nil]);first|done|rfl|(simp only [List.length_drop,List.length_take];rfl)) ?_;(with_reducible refine (laws_markNursery.calls kj17 t570 (fun k_ => some k_ = (.slice Ao41 t571.length co41 : Value).ownBlock) (.slice Ao41 t571.length co41) t571 t592 t594 t595 w _ ?side1 ?side2 A85.out).mono ?_);(case side1 => repeat (first|(with_reducible first|exact HB.out|apply below_alloc|apply pw_below_drewN|apply below_drew1|refine below_set ?_ GE550.out|refine below_set ?_ GE566.out|refine below_set ?_ GE574.out|refine below_set ?_ GE581.out)|exact HB.out));(case side2 => exact Kd.R_tight rfl HO_575001.out);rintro e w98 ⟨rfl,hy0,hb,hkp⟩;refine ⟨_,rfl,?_⟩;have n0_:=am (Kd.R_mono (ok':=fun k_ => some k_≠(.slice Ao88 t583.length co88 : Value).ownBlock) (Kd.R_keptB ((Kd.R_apart' HO_11.out (Kd.R_typed HO_575001.out) (by decide))) hkp (fun k_ hk_ hs_ => by first|exact hk_.2 hs_|exact hk_ hs_)) (fun k_ hk_ => by first|exact hk_.1.1.2|exact hk_.1|exact hk_.1.1));have n1_:=am (Kd.R_mono (ok':=fun k_ => some k_≠(.slice Ao41 t571.length co41 : Value).ownBlock∧some k_≠(.slice Ao49 t576.length co49 : Value).ownBlock∧some k_≠(.slice Ao91 t588.length co91 : Value).ownBlock) (Kd.R_keptB (HO_567001.out) hkp (fun k_ hk_ hs_ => by first|exact hk_.1 hs_|exact hk_.1 hs_|exact hk_.2.1 hs_|exact hk_.2 hs_|exact hk_.2.2.1 hs_|exact hk_.2.2 hs_|exact hk_.2.2.2 hs_|exact hk_ hs_)) (fun k_ hk_ => by first|exact ⟨hk_.1.1,hk_.1.2.1,hk_.1.2.2⟩|(simp only [and_assoc] at hk_;exact ⟨hk_.1,hk_.2.1,hk_.2.2.1⟩)));have n2_:=am (Kd.R_reok rfl hy0 (fun k_ e_ => HO_575001.out.1 k_ e_));have n3_:=am (Kd.R_mono (ok':=fun k_ => some k_≠(.slice Ao31 t561.length co31 : Value).ownBlock∧some k_≠(.slice Ao41 t571.length co41 : Value).ownBlock∧some k_≠(.slice Ao91 t588.length co91 : Value).ownBlock) (Kd.R_keptB (HO_582001.out) hkp (fun k_ hk_ hs_ => by first|exact hk_.2.1 hs_|exact hk_.1 hs_|exact hk_.2.1 hs_|exact hk_.2 hs_|exact hk_.2.2.1 hs_|exact hk_.2.2 hs_|exact hk_.2.2.2 hs_|exact hk_ hs_)) (fun k_ hk_ => by first|exact ⟨hk_.1.1,hk_.1.2.1,hk_.1.2.2⟩|(simp only [and_assoc] at hk_;exact ⟨hk_.1,hk_.2.1,hk_.2.2.1⟩)));have n4_:=am (blk_kept (bup BK550.out) hkp (fun hs_ => (fun e_ => (Kd.R_ne HO_575001.out BK550.out (by decide)) e_) hs_));have n5_:=am (blk_kept (bup BK566.out) hkp (fun hs_ => (fun e_ => (Kd.R_ne HO_575001.out BK566.out (by decide)) e_) hs_));have n6_:=am (blk_kept (bup BK574.out) hkp (fun hs_ => (fun e_ => (Kd.R_ne HO_575001.out BK574.out (by decide)) e_) hs_));have n7_:=am (blk_kept (bup BK581.out) hkp (fun hs_ => (fun e_ => (Kd.R_ne HO_575001.out BK581.out (by decide)) e_) hs_));have n8_:=am (Kd.R_mono (ok':=fun k_ => some k_≠(.slice Ao42 t567.length co42 : Value).ownBlock) (Kd.R_keptB ((Kd.R_apart' HO585.out (Kd.R_typed HO_575001.out) (by decide))) hkp (fun k_ hk_ hs_ => by first|exact hk_.2 hs_|exact hk_ hs_)) (fun k_ hk_ => by first|exact hk_.1.1|exact hk_.1|exact hk_.1.1));have n9_:=am (Kd.R_mono (ok':=fun k_ => some k_≠(.slice Ao31 t561.length co31 : Value).ownBlock∧some k_≠(.slice Ao41 t571.length co41 : Value).ownBlock∧some k_≠(.slice Ao49 t576.length co49 : Value).ownBlock) (Kd.R_keptB (HO590.out) hkp (fun k_ hk_ hs_ => by first|exact hk_.2.1 hs_|exact hk_.1 hs_|exact hk_.2.1 hs_|exact hk_.2 hs_|exact hk_.2.2.1 hs_|exact hk_.2.2 hs_|exact hk_.2.2.2 hs_|exact hk_ hs_)) (fun k_ hk_ => by first|exact ⟨hk_.1.1,hk_.1.2.1,hk_.1.2.2⟩|(simp only [and_assoc] at hk_;exact ⟨hk_.1,hk_.2.1,hk_.2.2.1⟩)));have n10_:=am (hb);clear HO_11 HO_567001 HO_575001 HO_582001 BK550 BK566 BK574 BK581 HO585 HO590 HB;have HO_11:=n0_;have HO_567001:=n1_;have HO_575001:=n2_;have HO_582001:=n3_;have BK550:=n4_;have BK566:=n5_;have BK574:=n6_;have BK581:=n7_;have HO585:=n8_;have HO590:=n9_;have HB:=n10_;clear n0_ n1_ n2_ n3_ n4_ n5_ n6_ n7_ n8_ n9_ n10_;(try clear hb);(try clear hkp);(try clear hy0)))
        (try simp only [Act.put,List.setIfInBounds_toArray,List.set_cons_zero,List.set_cons_succ])
        go_cut [101] (fun v101 wc => ∃ (kq : Nat) (x101_85 : Bool),v101 = .bool x101_85∧Aside0 (laws_FnExactYoungAlloc.j1 kq l0 a2 t564 t565 x101_85 a1_0 l1_1 t560 t561 t575 t576 = some r)∧Aside0 (kq ≤ kj17)∧Aside0 (Kd.R (Kd.int .i64) 2 wc w.heap.size (fun k_ => some k_≠((.slice Ao41 t571.length co41) : Value).ownBlock∧some k_≠((.slice Ao49 t576.length co49) : Value).ownBlock) (.slice Ao31 t561.length co31) t561)∧Aside0 (Kd.R (Kd.int .i64) 2 wc w.heap.size (fun k_ => some k_≠((.slice Ao31 t561.length co31) : Value).ownBlock∧some k_≠((.slice Ao49 t576.length co49) : Value).ownBlock) (.slice Ao41 t571.length co41) t595)∧Aside0 (Kd.R (Kd.int .i64) 2 wc w.heap.size (fun k_ => some k_≠((.slice Ao31 t561.length co31) : Value).ownBlock∧some k_≠((.slice Ao41 t571.length co41) : Value).ownBlock) (.slice Ao49 t576.length co49) t576)∧Aside0 (wc.heap[gb550]? = some (.cells #[.int .i64 a1_0,(.slice A1_1 l1_1.length c1_1)] 25 (0,0)))∧Aside0 (wc.heap[gb566]? = some (.cells #[.int .i64 t560,(.slice Ao31 t561.length co31)] 30 (0,0)))∧Aside0 (wc.heap[gb574]? = some (.cells #[.int .i64 t570,(.slice Ao41 t571.length co41)] 30 (0,0)))∧Aside0 (wc.heap[gb581]? = some (.cells #[.int .i64 t575,(.slice Ao49 t576.length co49)] 30 (0,0)))∧Aside0 (Below w.heap.size w wc))
        case first =>
         have H:=HC86.out
         clear HC86
         by_cases c99 : t594 < 0
         ·rw [if_pos c99] at H
          have c99b0 : decide (t594 < 0) = true:=decide_eq_true c99
          clear c99
          (first|rw [c99b0]|(simp only [i64_w,i32_w];rw [c99b0])|skip)
          have H':=am H
          clear H
          go_wp2
          go_meet
          case rel => exact ⟨_,(true),(by first|rfl|(simp;done)|(simp [*];done)),H',⟨by have:=HJ17.out;first|omega|exact Nat.le_refl _⟩,⟨kup (Kd.R_mono HO_567001.out (fun _ hk => ⟨hk.1,hk.2.1⟩))⟩,⟨kup (Kd.R_mono HO_575001.out (fun _ hk => ⟨hk.1,hk.2.1⟩))⟩,⟨kup (Kd.R_mono HO_582001.out (fun _ hk => ⟨hk.1,hk.2.1⟩))⟩,⟨bup BK550.out⟩,⟨bup BK566.out⟩,⟨bup BK574.out⟩,⟨bup BK581.out⟩,⟨lup HB.out⟩⟩
         ·rw [if_neg c99] at H
          have c99b0 : decide (t594 < 0) = false:=decide_eq_false c99
          clear c99
          (first|rw [c99b0]|(simp only [i64_w,i32_w];rw [c99b0])|skip)
          replace H:=Option.bind_eq_some_iff.mp H
          obtain ⟨t596,A1000,H⟩:=H
          try dsimp only at H
          have A100:=am A1000
          clear A1000
          by_cases c101 : t596 = true
          ·subst c101
           have H1:=H;rw [if_pos rfl] at H1
           clear H
           have H:=H1
           clear H1
           by_cases c102 : t579 = t564
           ·rw [if_pos c102] at H
            have c102b0 : (t579 == t564) = true:=beq_iff_eq.mpr c102
            have c102b1 : (t579 != t564) = false:=bne_eq_false_iff_eq.mpr c102
            clear c102
            have H':=am H
            clear H
            have hnb103:=NB581_550.out
            have hnc103:=NB550_581.out
            have hnb104:=NB581_566.out
            have hnc104:=NB566_581.out
            have hnb105:=NB581_574.out
            have hnc105:=NB574_581.out
            have hcz106_0 : w98.cell? ⟨gb581,0,none⟩ = some (.int .i64 t575):=(blk_cell BK581.out 0).trans rfl
            have hcz106_1 : w98.cell? ⟨gb581,1,none⟩ = some (.slice Ao49 t576.length co49):=(blk_cell BK581.out 1).trans rfl
            have hfz106_0:=blk_frozen BK581.out 0
            have hfz106_1:=blk_frozen BK581.out 1
            have hnb107:=NB566_550.out
            have hnc107:=NB550_566.out
            have hnb108:=NB566_574.out
            have hnc108:=NB574_566.out
            have hcz109_0 : w98.cell? ⟨gb566,0,none⟩ = some (.int .i64 t560):=(blk_cell BK566.out 0).trans rfl
            have hcz109_1 : w98.cell? ⟨gb566,1,none⟩ = some (.slice Ao31 t561.length co31):=(blk_cell BK566.out 1).trans rfl
            have hfz109_0:=blk_frozen BK566.out 0
            have hfz109_1:=blk_frozen BK566.out 1
            go_wp2_with (first|(go_at_call 23;(with_reducible refine (laws_eqNursery.calls kj17 t575 _ _ t576 t560 _ _ t561 true _ ?side1 ?side2 ?side3 ?side4 A100.out).mono ?_);(case side1 => repeat (first|exact (Kd.R_reads' HO_582001.out).2.2|(with_reducible first|refine Kd.C_alloc ?_ _|refine Kd.C_drewN ?_ _|refine Kd.C_drew ?_)));(case side2 => exact (Kd.R_reads' HO_582001.out).2.1);(case side3 => repeat (first|exact (Kd.R_reads' HO_567001.out).2.2|(with_reducible first|refine Kd.C_alloc ?_ _|refine Kd.C_drewN ?_ _|refine Kd.C_drew ?_)));(case side4 => exact (Kd.R_reads' HO_567001.out).2.1);rintro e w110 ⟨rfl,hb⟩;have n0_:=am (Kd.R_below (kup HO_11.out) hb);have n1_:=am (Kd.R_below (kup HO_567001.out) hb);have n2_:=am (Kd.R_below (kup HO_575001.out) hb);have n3_:=am (Kd.R_below (kup HO_582001.out) hb);have n4_:=am (Kd.R_below (kup HO585.out) hb);have n5_:=am (Kd.R_below (kup HO590.out) hb);have n6_:=am (blk_below (bup BK550.out) hb);have n7_:=am (blk_below (bup BK566.out) hb);have n8_:=am (blk_below (bup BK574.out) hb);have n9_:=am (blk_below (bup BK581.out) hb);have n10_:=am (below_step (lup HB.out) hb);clear HO_11 HO_567001 HO_575001 HO_582001 HO585 HO590 BK550 BK566 BK574 BK581 HB;have HO_11:=n0_;have HO_567001:=n1_;have HO_575001:=n2_;have HO_582001:=n3_;have HO585:=n4_;have HO590:=n5_;have BK550:=n6_;have BK566:=n7_;have BK574:=n8_;have BK581:=n9_;have HB:=n10_;clear n0_ n1_ n2_ n3_ n4_ n5_ n6_ n7_ n8_ n9_ n10_;(try clear hb);(try clear hb2);(try clear hk);(try clear hi)))
            go_meet
            case rel => exact ⟨_,((t580 != t565)),(by first|rfl|(simp;done)|(simp [*];done)),H',⟨by have:=HJ17.out;first|omega|exact Nat.le_refl _⟩,⟨kup (Kd.R_mono HO_567001.out (fun _ hk => ⟨hk.1,hk.2.1⟩))⟩,⟨kup (Kd.R_mono HO_575001.out (fun _ hk => ⟨hk.1,hk.2.1⟩))⟩,⟨kup (Kd.R_mono HO_582001.out (fun _ hk => ⟨hk.1,hk.2.1⟩))⟩,⟨bup BK550.out⟩,⟨bup BK566.out⟩,⟨bup BK574.out⟩,⟨bup BK581.out⟩,⟨lup HB.out⟩⟩
           ·rw [if_neg c102] at H
            have c102b0 : (t579 == t564) = false:=beq_eq_false_iff_ne.mpr c102
            have c102b1 : (t579 != t564) = true:=bne_iff_ne.mpr c102
            have H':=am H
            clear H
            have hnb111:=NB581_550.out
            have hnc111:=NB550_581.out
            have hnb112:=NB581_566.out
            have hnc112:=NB566_581.out
            have hnb113:=NB581_574.out
            have hnc113:=NB574_581.out
            have hcz114_0 : w98.cell? ⟨gb581,0,none⟩ = some (.int .i64 t575):=(blk_cell BK581.out 0).trans rfl
            have hcz114_1 : w98.cell? ⟨gb581,1,none⟩ = some (.slice Ao49 t576.length co49):=(blk_cell BK581.out 1).trans rfl
            have hfz114_0:=blk_frozen BK581.out 0
            have hfz114_1:=blk_frozen BK581.out 1
            have hnb115:=NB566_550.out
            have hnc115:=NB550_566.out
            have hnb116:=NB566_574.out
            have hnc116:=NB574_566.out
            have hcz117_0 : w98.cell? ⟨gb566,0,none⟩ = some (.int .i64 t560):=(blk_cell BK566.out 0).trans rfl
            have hcz117_1 : w98.cell? ⟨gb566,1,none⟩ = some (.slice Ao31 t561.length co31):=(blk_cell BK566.out 1).trans rfl
            have hfz117_0:=blk_frozen BK566.out 0
            have hfz117_1:=blk_frozen BK566.out 1
            go_wp2_with (first|(go_at_call 23;(with_reducible refine (laws_eqNursery.calls kj17 t575 _ _ t576 t560 _ _ t561 true _ ?side1 ?side2 ?side3 ?side4 A100.out).mono ?_);(case side1 => repeat (first|exact (Kd.R_reads' HO_582001.out).2.2|(with_reducible first|refine Kd.C_alloc ?_ _|refine Kd.C_drewN ?_ _|refine Kd.C_drew ?_)));(case side2 => exact (Kd.R_reads' HO_582001.out).2.1);(case side3 => repeat (first|exact (Kd.R_reads' HO_567001.out).2.2|(with_reducible first|refine Kd.C_alloc ?_ _|refine Kd.C_drewN ?_ _|refine Kd.C_drew ?_)));(case side4 => exact (Kd.R_reads' HO_567001.out).2.1);rintro e w118 ⟨rfl,hb⟩;have n0_:=am (Kd.R_below (kup HO_11.out) hb);have n1_:=am (Kd.R_below (kup HO_567001.out) hb);have n2_:=am (Kd.R_below (kup HO_575001.out) hb);have n3_:=am (Kd.R_below (kup HO_582001.out) hb);have n4_:=am (Kd.R_below (kup HO585.out) hb);have n5_:=am (Kd.R_below (kup HO590.out) hb);have n6_:=am (blk_below (bup BK550.out) hb);have n7_:=am (blk_below (bup BK566.out) hb);have n8_:=am (blk_below (bup BK574.out) hb);have n9_:=am (blk_below (bup BK581.out) hb);have n10_:=am (below_step (lup HB.out) hb);clear HO_11 HO_567001 HO_575001 HO_582001 HO585 HO590 BK550 BK566 BK574 BK581 HB;have HO_11:=n0_;have HO_567001:=n1_;have HO_575001:=n2_;have HO_582001:=n3_;have HO585:=n4_;have HO590:=n5_;have BK550:=n6_;have BK566:=n7_;have BK574:=n8_;have BK581:=n9_;have HB:=n10_;clear n0_ n1_ n2_ n3_ n4_ n5_ n6_ n7_ n8_ n9_ n10_;(try clear hb);(try clear hb2);(try clear hk);(try clear hi)))
            go_meet
            case rel => exact ⟨_,(true),(by first|rfl|(simp;done)|(simp [*];done)),H',⟨by have:=HJ17.out;first|omega|exact Nat.le_refl _⟩,⟨kup (Kd.R_mono HO_567001.out (fun _ hk => ⟨hk.1,hk.2.1⟩))⟩,⟨kup (Kd.R_mono HO_575001.out (fun _ hk => ⟨hk.1,hk.2.1⟩))⟩,⟨kup (Kd.R_mono HO_582001.out (fun _ hk => ⟨hk.1,hk.2.1⟩))⟩,⟨bup BK550.out⟩,⟨bup BK566.out⟩,⟨bup BK574.out⟩,⟨bup BK581.out⟩,⟨lup HB.out⟩⟩
          ·replace c101:=Bool.eq_false_iff.mpr c101
           subst c101
           have H1 : (laws_FnExactYoungAlloc.j1 kj17 l0 a2 t564 t565 true a1_0 l1_1 t560 t561 t575 t576) = some r:=by rw [if_neg (show ¬ (false = true) by decide)] at H;exact H
           clear H
           have H:=H1
           clear H1
           have H':=am H
           clear H
           have hnb119:=NB581_550.out
           have hnc119:=NB550_581.out
           have hnb120:=NB581_566.out
           have hnc120:=NB566_581.out
           have hnb121:=NB581_574.out
           have hnc121:=NB574_581.out
           have hcz122_0 : w98.cell? ⟨gb581,0,none⟩ = some (.int .i64 t575):=(blk_cell BK581.out 0).trans rfl
           have hcz122_1 : w98.cell? ⟨gb581,1,none⟩ = some (.slice Ao49 t576.length co49):=(blk_cell BK581.out 1).trans rfl
           have hfz122_0:=blk_frozen BK581.out 0
           have hfz122_1:=blk_frozen BK581.out 1
           have hnb123:=NB566_550.out
           have hnc123:=NB550_566.out
           have hnb124:=NB566_574.out
           have hnc124:=NB574_566.out
           have hcz125_0 : w98.cell? ⟨gb566,0,none⟩ = some (.int .i64 t560):=(blk_cell BK566.out 0).trans rfl
           have hcz125_1 : w98.cell? ⟨gb566,1,none⟩ = some (.slice Ao31 t561.length co31):=(blk_cell BK566.out 1).trans rfl
           have hfz125_0:=blk_frozen BK566.out 0
           have hfz125_1:=blk_frozen BK566.out 1
           go_wp2_with (first|(go_at_call 23;(with_reducible refine (laws_eqNursery.calls kj17 t575 _ _ t576 t560 _ _ t561 false _ ?side1 ?side2 ?side3 ?side4 A100.out).mono ?_);(case side1 => repeat (first|exact (Kd.R_reads' HO_582001.out).2.2|(with_reducible first|refine Kd.C_alloc ?_ _|refine Kd.C_drewN ?_ _|refine Kd.C_drew ?_)));(case side2 => exact (Kd.R_reads' HO_582001.out).2.1);(case side3 => repeat (first|exact (Kd.R_reads' HO_567001.out).2.2|(with_reducible first|refine Kd.C_alloc ?_ _|refine Kd.C_drewN ?_ _|refine Kd.C_drew ?_)));(case side4 => exact (Kd.R_reads' HO_567001.out).2.1);rintro e w126 ⟨rfl,hb⟩;have n0_:=am (Kd.R_below (kup HO_11.out) hb);have n1_:=am (Kd.R_below (kup HO_567001.out) hb);have n2_:=am (Kd.R_below (kup HO_575001.out) hb);have n3_:=am (Kd.R_below (kup HO_582001.out) hb);have n4_:=am (Kd.R_below (kup HO585.out) hb);have n5_:=am (Kd.R_below (kup HO590.out) hb);have n6_:=am (blk_below (bup BK550.out) hb);have n7_:=am (blk_below (bup BK566.out) hb);have n8_:=am (blk_below (bup BK574.out) hb);have n9_:=am (blk_below (bup BK581.out) hb);have n10_:=am (below_step (lup HB.out) hb);clear HO_11 HO_567001 HO_575001 HO_582001 HO585 HO590 BK550 BK566 BK574 BK581 HB;have HO_11:=n0_;have HO_567001:=n1_;have HO_575001:=n2_;have HO_582001:=n3_;have HO585:=n4_;have HO590:=n5_;have BK550:=n6_;have BK566:=n7_;have BK574:=n8_;have BK581:=n9_;have HB:=n10_;clear n0_ n1_ n2_ n3_ n4_ n5_ n6_ n7_ n8_ n9_ n10_;(try clear hb);(try clear hb2);(try clear hk);(try clear hi)))
           go_meet
           case rel => exact ⟨_,(true),(by first|rfl|(simp;done)|(simp [*];done)),H',⟨by have:=HJ17.out;first|omega|exact Nat.le_refl _⟩,⟨kup (Kd.R_mono HO_567001.out (fun _ hk => ⟨hk.1,hk.2.1⟩))⟩,⟨kup (Kd.R_mono HO_575001.out (fun _ hk => ⟨hk.1,hk.2.1⟩))⟩,⟨kup (Kd.R_mono HO_582001.out (fun _ hk => ⟨hk.1,hk.2.1⟩))⟩,⟨bup BK550.out⟩,⟨bup BK566.out⟩,⟨bup BK574.out⟩,⟨bup BK581.out⟩,⟨lup HB.out⟩⟩
        case rest =>
         clear HC86
         try clear c1
         try clear c2
         try clear p2
         try clear c3
         try clear c4
         try clear c5
         try clear c6
         try clear c7
         try clear c8
         try clear c9
         try clear c10
         try clear c11
         try clear c12
         try clear c19
         try clear c20
         try clear c22
         try clear c23
         try clear c27
         try clear c28
         try clear c34
         try clear c38
         try clear c39
         try clear c45
         try clear c46
         try clear c47
         try clear c51
         try clear c52
         try clear c52b0
         try clear c52b1
         try clear c53
         try clear c54
         try clear c55
         try clear c57
         try clear c58
         try clear c61
         try clear c62
         try clear c63
         try clear c65
         try clear c66
         try clear c69
         try clear c70
         try clear c71
         try clear c73
         try clear c74
         try clear c77
         try clear c80
         try clear c83
         try clear c94
         try clear c95
         try clear c96
         try clear c99
         try clear c99b0
         try clear c101
         try clear c102
         try clear c102b0
         try clear c102b1
         try clear c103
         try clear c104
         try clear c105
         try clear c107
         try clear c108
         try clear c111
         try clear c112
         try clear c113
         try clear c115
         try clear c116
         try clear c119
         try clear c120
         try clear c121
         try clear c123
         try clear c124
         try clear hcz106_0
         try clear hcz106_1
         try clear hcz109_0
         try clear hcz109_1
         try clear hcz114_0
         try clear hcz114_1
         try clear hcz117_0
         try clear hcz117_1
         try clear hcz122_0
         try clear hcz122_1
         try clear hcz125_0
         try clear hcz125_1
         try clear hcz35_0
         try clear hcz35_1
         try clear hcz40_0
         try clear hcz40_1
         try clear hcz48_0
         try clear hcz48_1
         try clear hcz56_0
         try clear hcz56_1
         try clear hcz59_0
         try clear hcz59_1
         try clear hcz64_0
         try clear hcz64_1
         try clear hcz67_0
         try clear hcz67_1
         try clear hcz72_0
         try clear hcz72_1
         try clear hcz75_0
         try clear hcz75_1
         try clear hcz97_0
         try clear hcz97_1
         try clear hfz106_0
         try clear hfz106_1
         try clear hfz109_0
         try clear hfz109_1
         try clear hfz114_0
         try clear hfz114_1
         try clear hfz117_0
         try clear hfz117_1
         try clear hfz122_0
         try clear hfz122_1
         try clear hfz125_0
         try clear hfz125_1
         try clear hfz35_0
         try clear hfz35_1
         try clear hfz40_0
         try clear hfz40_1
         try clear hfz48_0
         try clear hfz48_1
         try clear hfz56_0
         try clear hfz56_1
         try clear hfz59_0
         try clear hfz59_1
         try clear hfz64_0
         try clear hfz64_1
         try clear hfz67_0
         try clear hfz67_1
         try clear hfz72_0
         try clear hfz72_1
         try clear hfz75_0
         try clear hfz75_1
         try clear hfz97_0
         try clear hfz97_1
         try clear p2
         obtain ⟨kq,x101_85,rfl,HA,HJ85,HO_567001,HO_575001,HO_582001,BK550,BK566,BK574,BK581,HB⟩:=hcut
         have hl575001_85:=(Kd.R_reads' HO_575001.out).1
         rw [hl575001_85] at HO_575001
         (try simp only [hl575001_85])
         (try simp only [hl575001_85] at BK550)
         (try simp only [hl575001_85] at BK566)
         (try simp only [hl575001_85] at BK574)
         (try simp only [hl575001_85] at BK581)
         (try simp only [hl575001_85] at HO_567001)
         (try simp only [hl575001_85] at HO_582001)
         cases kq with
         | zero => exact absurd HA.out (by simp [laws_FnExactYoungAlloc.j1])
         | succ kj85 =>
          have H:=HA.out
          clear HA
          simp only [laws_FnExactYoungAlloc.j1] at H
          by_cases c127 : x101_85 = true
          ·subst c127
           have H1:=H;rw [if_pos rfl] at H1
           clear H
           have H:=H1
           clear H1
           obtain rfl:=Option.some.inj H
           go_wp2
           go_ret
           exact ⟨by first|rfl|(simp [errW_none,errW_some] <;> rfl)|(simp [*,errW_none,errW_some] <;> rfl),by repeat (first|(with_reducible first|exact HB.out|apply below_alloc|apply pw_below_drewN|apply below_drew1|refine below_set ?_ GE550.out|refine below_set ?_ GE566.out|refine below_set ?_ GE574.out|refine below_set ?_ GE581.out)|exact HB.out)⟩
          ·replace c127:=Bool.eq_false_iff.mpr c127
           subst c127
           have H1 : ((laws_markNursery.f kj85 t575 t576 1).bind fun bt597 => ((laws_heldNursery.f kj85 t575 bt597.2 1).bind fun t599 => (if t599 < 0 then (some false) else (if t599 = bt597.1 then ((laws_toStringS.f kj85 l0).bind fun t600 => ((laws_toNursery.f kj85 a1_0 l1_1).bind fun bt603 => ((impl_YoungAlloc.f kj85 t600 bt603.1 bt603.2 a2).bind fun bt607 => ((laws_eqNursery.f kj85 bt607.1 bt607.2.1 t560 t561).bind fun t614 => (if t614 = true then (if bt607.2.2.1 = t564 then (laws_FnExactYoungAlloc.j2 kj85 bt597.1 (bt607.2.2.2 != t565) t575 bt597.2) else (laws_FnExactYoungAlloc.j2 kj85 bt597.1 true t575 bt597.2)) else (laws_FnExactYoungAlloc.j2 kj85 bt597.1 true t575 bt597.2)))))) else (some false))))) = some r:=by rw [if_neg (show ¬ (false = true) by decide)] at H;exact H
           clear H
           have H:=H1
           clear H1
           replace H:=Option.bind_eq_some_iff.mp H
           obtain ⟨⟨t597,t598⟩,A1280,H⟩:=H
           try dsimp only at H
           have A128:=am A1280
           clear A1280
           replace H:=Option.bind_eq_some_iff.mp H
           obtain ⟨t599,A1290,H⟩:=H
           try dsimp only at H
           have A129:=am A1290
           clear A1290
           by_cases c130 : t599 < 0
           ·rw [if_pos c130] at H
            have c130b0 : decide (t599 < 0) = true:=decide_eq_true c130
            clear c130
            obtain rfl:=Option.some.inj H
            have hnb131:=NB581_550.out
            have hnc131:=NB550_581.out
            have hnb132:=NB581_566.out
            have hnc132:=NB566_581.out
            have hnb133:=NB581_574.out
            have hnc133:=NB574_581.out
            have hcz134_0 : wc.cell? ⟨gb581,0,none⟩ = some (.int .i64 t575):=(blk_cell BK581.out 0).trans rfl
            have hcz134_1 : wc.cell? ⟨gb581,1,none⟩ = some (.slice Ao49 t576.length co49):=(blk_cell BK581.out 1).trans rfl
            have hfz134_0:=blk_frozen BK581.out 0
            have hfz134_1:=blk_frozen BK581.out 1
            go_wp2_with (first|((with_reducible refine gate_callee (f:=28) rfl ?_);refine goesL_ (some 104) rfl rfl Tryd.func28 (by kernel_rfl) rfl #[.agg #[.int .i64 t575,.slice Ao49 t576.length co49],.int .i64 1] rfl (by (try simp only [List.map_toArray,List.map_cons,List.map_nil]);first|done|rfl|(simp only [List.length_drop,List.length_take];rfl)) ?_;(with_reducible refine (laws_markNursery.calls kj85 t575 (fun k_ => some k_ = (.slice Ao49 t576.length co49 : Value).ownBlock) (.slice Ao49 t576.length co49) t576 1 t597 t598 w _ ?side1 ?side2 A128.out).mono ?_);(case side1 => repeat (first|(with_reducible first|exact HB.out|apply below_alloc|apply pw_below_drewN|apply below_drew1|refine below_set ?_ GE550.out|refine below_set ?_ GE566.out|refine below_set ?_ GE574.out|refine below_set ?_ GE581.out)|exact HB.out));(case side2 => exact Kd.R_tight rfl HO_582001.out);rintro e w135 ⟨rfl,hy0,hb,hkp⟩;refine ⟨_,rfl,?_⟩;have n0_:=am (Kd.R_mono (ok':=fun k_ => some k_≠(.slice Ao41 t595.length co41 : Value).ownBlock∧some k_≠(.slice Ao49 t576.length co49 : Value).ownBlock) (Kd.R_keptB (HO_567001.out) hkp (fun k_ hk_ hs_ => by first|exact hk_.2 hs_|exact hk_ hs_)) (fun k_ hk_ => by first|exact ⟨hk_.1.1,hk_.1.2⟩|(simp only [and_assoc] at hk_;exact ⟨hk_.1,hk_.2.1⟩)));have n1_:=am (Kd.R_mono (ok':=fun k_ => some k_≠(.slice Ao31 t561.length co31 : Value).ownBlock∧some k_≠(.slice Ao49 t576.length co49 : Value).ownBlock) (Kd.R_keptB (HO_575001.out) hkp (fun k_ hk_ hs_ => by first|exact hk_.2 hs_|exact hk_ hs_)) (fun k_ hk_ => by first|exact ⟨hk_.1.1,hk_.1.2⟩|(simp only [and_assoc] at hk_;exact ⟨hk_.1,hk_.2.1⟩)));have n2_:=am (Kd.R_reok rfl hy0 (fun k_ e_ => HO_582001.out.1 k_ e_));have n3_:=am (blk_kept (bup BK550.out) hkp (fun hs_ => (fun e_ => (Kd.R_ne HO_582001.out BK550.out (by decide)) e_) hs_));have n4_:=am (blk_kept (bup BK566.out) hkp (fun hs_ => (fun e_ => (Kd.R_ne HO_582001.out BK566.out (by decide)) e_) hs_));have n5_:=am (blk_kept (bup BK574.out) hkp (fun hs_ => (fun e_ => (Kd.R_ne HO_582001.out BK574.out (by decide)) e_) hs_));have n6_:=am (blk_kept (bup BK581.out) hkp (fun hs_ => (fun e_ => (Kd.R_ne HO_582001.out BK581.out (by decide)) e_) hs_));have n7_:=am (hb);clear HO_567001 HO_575001 HO_582001 BK550 BK566 BK574 BK581 HB;have HO_567001:=n0_;have HO_575001:=n1_;have HO_582001:=n2_;have BK550:=n3_;have BK566:=n4_;have BK574:=n5_;have BK581:=n6_;have HB:=n7_;clear n0_ n1_ n2_ n3_ n4_ n5_ n6_ n7_;(try clear hb);(try clear hkp);(try clear hy0);have hcz136_0 : w135.cell? ⟨gb581,0,none⟩ = some (.int .i64 t575):=(blk_cell BK581.out 0).trans rfl;have hcz136_1 : w135.cell? ⟨gb581,1,none⟩ = some (.slice Ao49 t576.length co49):=(blk_cell BK581.out 1).trans rfl;have hfz136_0:=blk_frozen BK581.out 0;have hfz136_1:=blk_frozen BK581.out 1)|((with_reducible refine gate_callee (f:=40) rfl ?_);refine goesL_ (some 107) rfl rfl Tryd.func40 (by kernel_rfl) rfl #[.agg #[.int .i64 t575,.slice Ao49 t598.length co49],.int .i64 1] rfl (by (try simp only [List.map_toArray,List.map_cons,List.map_nil]);first|done|(rw [show t598.length = t576.length from (Kd.R_reads' HO_582001.out).1.symm] <;> rfl)|rfl|(simp only [List.length_drop,List.length_take];rfl)) ?_;(with_reducible refine (laws_heldNursery.calls kj85 t575 _ _ t598 1 t599 _ ?side1 ?side2 A129.out).mono ?_);(case side1 => repeat (first|exact (Kd.R_reads' HO_582001.out).2.2|(with_reducible first|refine Kd.C_alloc ?_ _|refine Kd.C_drewN ?_ _|refine Kd.C_drew ?_)));(case side2 => rw [show t598.length = t576.length from (Kd.R_reads' HO_582001.out).1.symm];exact (Kd.R_reads' HO_582001.out).2.1);rintro e w137 ⟨rfl,hb⟩;refine ⟨_,rfl,?_⟩;have n0_:=am (Kd.R_below (kup HO_567001.out) hb);have n1_:=am (Kd.R_below (kup HO_575001.out) hb);have n2_:=am (Kd.R_below (kup HO_582001.out) hb);have n3_:=am (blk_below (bup BK550.out) hb);have n4_:=am (blk_below (bup BK566.out) hb);have n5_:=am (blk_below (bup BK574.out) hb);have n6_:=am (blk_below (bup BK581.out) hb);have n7_:=am (below_step (lup HB.out) hb);clear HO_567001 HO_575001 HO_582001 BK550 BK566 BK574 BK581 HB;have HO_567001:=n0_;have HO_575001:=n1_;have HO_582001:=n2_;have BK550:=n3_;have BK566:=n4_;have BK574:=n5_;have BK581:=n6_;have HB:=n7_;clear n0_ n1_ n2_ n3_ n4_ n5_ n6_ n7_;(try clear hb);(try clear hb2);(try clear hk);(try clear hi)))
            go_ret
            exact ⟨by first|rfl|(simp [errW_none,errW_some] <;> rfl)|(simp [*,errW_none,errW_some] <;> rfl),by repeat (first|(with_reducible first|exact HB.out|apply below_alloc|apply pw_below_drewN|apply below_drew1|refine below_set ?_ GE550.out|refine below_set ?_ GE566.out|refine below_set ?_ GE574.out|refine below_set ?_ GE581.out)|exact HB.out)⟩
           ·rw [if_neg c130] at H
            have c130b0 : decide (t599 < 0) = false:=decide_eq_false c130
            clear c130
            by_cases c138 : t599 = t597
            ·rw [if_pos c138] at H
             have c138b0 : (t599 == t597) = true:=beq_iff_eq.mpr c138
             have c138b1 : (t599 != t597) = false:=bne_eq_false_iff_eq.mpr c138
             clear c138
             replace H:=Option.bind_eq_some_iff.mp H
             obtain ⟨t600,A1390,H⟩:=H
             try dsimp only at H
             have A139:=am A1390
             clear A1390
             replace H:=Option.bind_eq_some_iff.mp H
             obtain ⟨⟨t603,t604⟩,A1400,H⟩:=H
             try dsimp only at H
             have A140:=am A1400
             clear A1400
             replace H:=Option.bind_eq_some_iff.mp H
             obtain ⟨⟨t607,t608,t611,t612⟩,A1410,H⟩:=H
             try dsimp only at H
             have A141:=am A1410
             clear A1410
             have HC142:=am H
             clear H
             have hnb143:=NB581_550.out
             have hnc143:=NB550_581.out
             have hnb144:=NB581_566.out
             have hnc144:=NB566_581.out
             have hnb145:=NB581_574.out
             have hnc145:=NB574_581.out
             have hcz146_0 : wc.cell? ⟨gb581,0,none⟩ = some (.int .i64 t575):=(blk_cell BK581.out 0).trans rfl
             have hcz146_1 : wc.cell? ⟨gb581,1,none⟩ = some (.slice Ao49 t576.length co49):=(blk_cell BK581.out 1).trans rfl
             have hfz146_0:=blk_frozen BK581.out 0
             have hfz146_1:=blk_frozen BK581.out 1
             try go_wp2_with (first|((with_reducible refine gate_callee (f:=28) rfl ?_);refine goesL_ (some 104) rfl rfl Tryd.func28 (by kernel_rfl) rfl #[.agg #[.int .i64 t575,.slice Ao49 t576.length co49],.int .i64 1] rfl (by (try simp only [List.map_toArray,List.map_cons,List.map_nil]);first|done|rfl|(simp only [List.length_drop,List.length_take];rfl)) ?_;(with_reducible refine (laws_markNursery.calls kj85 t575 (fun k_ => some k_ = (.slice Ao49 t576.length co49 : Value).ownBlock) (.slice Ao49 t576.length co49) t576 1 t597 t598 w _ ?side1 ?side2 A128.out).mono ?_);(case side1 => repeat (first|(with_reducible first|exact HB.out|apply below_alloc|apply pw_below_drewN|apply below_drew1|refine below_set ?_ GE550.out|refine below_set ?_ GE566.out|refine below_set ?_ GE574.out|refine below_set ?_ GE581.out)|exact HB.out));(case side2 => exact Kd.R_tight rfl HO_582001.out);rintro e w147 ⟨rfl,hy0,hb,hkp⟩;refine ⟨_,rfl,?_⟩;have n0_:=am (Kd.R_mono (ok':=fun k_ => some k_≠(.slice Ao41 t595.length co41 : Value).ownBlock∧some k_≠(.slice Ao49 t576.length co49 : Value).ownBlock) (Kd.R_keptB (HO_567001.out) hkp (fun k_ hk_ hs_ => by first|exact hk_.2 hs_|exact hk_ hs_)) (fun k_ hk_ => by first|exact ⟨hk_.1.1,hk_.1.2⟩|(simp only [and_assoc] at hk_;exact ⟨hk_.1,hk_.2.1⟩)));have n1_:=am (Kd.R_mono (ok':=fun k_ => some k_≠(.slice Ao31 t561.length co31 : Value).ownBlock∧some k_≠(.slice Ao49 t576.length co49 : Value).ownBlock) (Kd.R_keptB (HO_575001.out) hkp (fun k_ hk_ hs_ => by first|exact hk_.2 hs_|exact hk_ hs_)) (fun k_ hk_ => by first|exact ⟨hk_.1.1,hk_.1.2⟩|(simp only [and_assoc] at hk_;exact ⟨hk_.1,hk_.2.1⟩)));have n2_:=am (Kd.R_reok rfl hy0 (fun k_ e_ => HO_582001.out.1 k_ e_));have n3_:=am (blk_kept (bup BK550.out) hkp (fun hs_ => (fun e_ => (Kd.R_ne HO_582001.out BK550.out (by decide)) e_) hs_));have n4_:=am (blk_kept (bup BK566.out) hkp (fun hs_ => (fun e_ => (Kd.R_ne HO_582001.out BK566.out (by decide)) e_) hs_));have n5_:=am (blk_kept (bup BK574.out) hkp (fun hs_ => (fun e_ => (Kd.R_ne HO_582001.out BK574.out (by decide)) e_) hs_));have n6_:=am (blk_kept (bup BK581.out) hkp (fun hs_ => (fun e_ => (Kd.R_ne HO_582001.out BK581.out (by decide)) e_) hs_));have n7_:=am (hb);clear HO_567001 HO_575001 HO_582001 BK550 BK566 BK574 BK581 HB;have HO_567001:=n0_;have HO_575001:=n1_;have HO_582001:=n2_;have BK550:=n3_;have BK566:=n4_;have BK574:=n5_;have BK581:=n6_;have HB:=n7_;clear n0_ n1_ n2_ n3_ n4_ n5_ n6_ n7_;(try clear hb);(try clear hkp);(try clear hy0);have hcz148_0 : w147.cell? ⟨gb581,0,none⟩ = some (.int .i64 t575):=(blk_cell BK581.out 0).trans rfl;have hcz148_1 : w147.cell? ⟨gb581,1,none⟩ = some (.slice Ao49 t576.length co49):=(blk_cell BK581.out 1).trans rfl;have hfz148_0:=blk_frozen BK581.out 0;have hfz148_1:=blk_frozen BK581.out 1)|((with_reducible refine gate_callee (f:=40) rfl ?_);refine goesL_ (some 107) rfl rfl Tryd.func40 (by kernel_rfl) rfl #[.agg #[.int .i64 t575,.slice Ao49 t598.length co49],.int .i64 1] rfl (by (try simp only [List.map_toArray,List.map_cons,List.map_nil]);first|done|(rw [show t598.length = t576.length from (Kd.R_reads' HO_582001.out).1.symm] <;> rfl)|rfl|(simp only [List.length_drop,List.length_take];rfl)) ?_;(with_reducible refine (laws_heldNursery.calls kj85 t575 _ _ t598 1 t599 _ ?side1 ?side2 A129.out).mono ?_);(case side1 => repeat (first|exact (Kd.R_reads' HO_582001.out).2.2|(with_reducible first|refine Kd.C_alloc ?_ _|refine Kd.C_drewN ?_ _|refine Kd.C_drew ?_)));(case side2 => rw [show t598.length = t576.length from (Kd.R_reads' HO_582001.out).1.symm];exact (Kd.R_reads' HO_582001.out).2.1);rintro e w149 ⟨rfl,hb⟩;refine ⟨_,rfl,?_⟩;have n0_:=am (Kd.R_below (kup HO_567001.out) hb);have n1_:=am (Kd.R_below (kup HO_575001.out) hb);have n2_:=am (Kd.R_below (kup HO_582001.out) hb);have n3_:=am (blk_below (bup BK550.out) hb);have n4_:=am (blk_below (bup BK566.out) hb);have n5_:=am (blk_below (bup BK574.out) hb);have n6_:=am (blk_below (bup BK581.out) hb);have n7_:=am (below_step (lup HB.out) hb);clear HO_567001 HO_575001 HO_582001 BK550 BK566 BK574 BK581 HB;have HO_567001:=n0_;have HO_575001:=n1_;have HO_582001:=n2_;have BK550:=n3_;have BK566:=n4_;have BK574:=n5_;have BK581:=n6_;have HB:=n7_;clear n0_ n1_ n2_ n3_ n4_ n5_ n6_ n7_;(try clear hb);(try clear hb2);(try clear hk);(try clear hi)))
             have n0_:=am (Kd.R_drew HO_567001.out)
             have n1_:=am (Kd.R_drew HO_575001.out)
             have n2_:=am (Kd.R_drew HO_582001.out)
             have n3_:=am (blk_drew BK550.out)
             have n4_:=am (blk_drew BK566.out)
             have n5_:=am (blk_drew BK574.out)
             have n6_:=am (blk_drew BK581.out)
             have n7_:=am (below_drew1 HB.out)
             clear HO_567001
             clear HO_575001
             clear HO_582001
             clear BK550
             clear BK566
             clear BK574
             clear BK581
             clear HB
             have HO_567001:=n0_
             have HO_575001:=n1_
             have HO_582001:=n2_
             have BK550:=n3_
             have BK566:=n4_
             have BK574:=n5_
             have BK581:=n6_
             have HB:=n7_
             clear n0_ n1_ n2_ n3_ n4_ n5_ n6_ n7_
             refine start_ (n:=14) (S:=fun w' => w'.cell? ⟨gb550,0,none⟩ = some (.int .i64 a1_0)∧w'.cell? ⟨gb550,1,none⟩ = some (.slice A1_1 l1_1.length c1_1)) (ds:=[]) #[false,false,false,false,false,false,false,false,false,false,false,false,false,false] (by kernel_rfl) rfl rfl ⟨(blk_cell BK550.out 0).trans rfl,(blk_cell BK550.out 1).trans rfl⟩ (fun hHeld => ?_);refine with_tabW laws_FnExactYoungAlloc.tab31 laws_FnExactYoungAlloc.bits31 (fun HT_ HW_ => ?_)
             generalize w149.drew = w150 at HO_567001 HO_575001 HO_582001 BK550 BK566 BK574 BK581 HB hHeld ⊢
             refine pure_ (i:=0) (N:=some 114) (v:=?_) (a':=?_) #[true,false,false,false,false,false,false,false,false,false,false,false,false,false] rfl rfl (any_of HT_.out (by kernel_rfl)) (fun _ _ _ h => h) (Or.inl ⟨by rfl,?_⟩) ?_ ?_
             rotate_left
             ·intro w'
              go_simp
              with_reducible rfl
             rotate_left
             ·simp only [Act.put,List.setIfInBounds_toArray,List.set_cons_zero,List.set_cons_succ,i64_w,i32_w]
              rfl
             refine pure_ (i:=4) (N:=some 118) (v:=?_) (a':=?_) #[true,false,false,false,true,false,false,false,false,false,false,false,false,false] rfl rfl (any_of HT_.out (by kernel_rfl)) (fun _ _ _ h => h) (Or.inl ⟨by rfl,?_⟩) ?_ ?_
             rotate_left
             ·intro w'
              go_simp
              with_reducible rfl
             rotate_left
             ·simp only [Act.put,List.setIfInBounds_toArray,List.set_cons_zero,List.set_cons_succ,i64_w,i32_w]
              rfl
             refine take_ (i:=2) (N:=some 116) (v:=?_) (a':=?_) #[true,false,true,false,true,false,false,false,false,false,false,false,false,false] rfl rfl (take_ofW HT_.out HW_.out (by kernel_rfl)) (fun _ _ _ h => h) (Or.inl ⟨by rfl,?_⟩) hHeld ?_ ?_
             rotate_left
             ·rintro w' ⟨s0,s1⟩
              go_simp
              with_reducible rfl
             rotate_left
             ·simp only [Act.put,List.setIfInBounds_toArray,List.set_cons_zero,List.set_cons_succ,i64_w,i32_w]
              rfl
             refine join_ (σ:=Value × Value × Value × Nat) 3 #[true,true,true,true,true,true,true,true,true,true,true,false,false,false] (fun s_ => [(115,s_.1),(117,.agg #[.int .i64 t603,s_.2.1]),(119,.tuple #[.agg #[.int .i64 t607,s_.2.2.1],.int .i64 t611,.int .i64 t612]),(19,.pointer (some ⟨s_.2.2.2,0,none⟩)),(113,.tuple #[.agg #[.int .i64 t607,s_.2.2.1],.int .i64 t611,.int .i64 t612]),(120,.agg #[.int .i64 t607,s_.2.2.1]),(121,.int .i64 t611),(122,.int .i64 t612)]) (fun s_ w' => (w'.cell? ⟨gb550,0,none⟩ = some (.int .i64 a1_0)∧w'.cell? ⟨gb550,1,none⟩ = some (.slice A1_1 l1_1.length c1_1))∧(Kd.R Kd.string 9 w' w.heap.size (fun _ => True) s_.1 t600)∧(Kd.R (Kd.int .i64) 2 w' w.heap.size (fun k_ => some k_≠(s_.2.2.1 : Value).ownBlock∧some k_≠(.slice Ao31 t561.length co31 : Value).ownBlock∧some k_≠(.slice Ao41 t595.length co41 : Value).ownBlock∧some k_≠(.slice Ao49 t576.length co49 : Value).ownBlock) s_.2.1 t604)∧(Kd.R (Kd.int .i64) 2 w' w.heap.size (fun k_ => some k_≠(s_.2.1 : Value).ownBlock∧some k_≠(.slice Ao31 t561.length co31 : Value).ownBlock∧some k_≠(.slice Ao41 t595.length co41 : Value).ownBlock∧some k_≠(.slice Ao49 t576.length co49 : Value).ownBlock) s_.2.2.1 t608)∧(Kd.R (Kd.int .i64) 2 w' w.heap.size (fun k_ => some k_≠(s_.2.1 : Value).ownBlock∧some k_≠(s_.2.2.1 : Value).ownBlock∧some k_≠(.slice Ao41 t595.length co41 : Value).ownBlock∧some k_≠(.slice Ao49 t576.length co49 : Value).ownBlock) (.slice Ao31 t561.length co31) t561)∧(Kd.R (Kd.int .i64) 2 w' w.heap.size (fun k_ => some k_≠(s_.2.1 : Value).ownBlock∧some k_≠(s_.2.2.1 : Value).ownBlock∧some k_≠(.slice Ao31 t561.length co31 : Value).ownBlock∧some k_≠(.slice Ao49 t576.length co49 : Value).ownBlock) (.slice Ao41 t595.length co41) t595)∧(Kd.R (Kd.int .i64) 2 w' w.heap.size (fun k_ => some k_≠(s_.2.1 : Value).ownBlock∧some k_≠(s_.2.2.1 : Value).ownBlock∧some k_≠(.slice Ao31 t561.length co31 : Value).ownBlock∧some k_≠(.slice Ao41 t595.length co41 : Value).ownBlock) (.slice Ao49 t576.length co49) t598)∧(w'.heap[gb550]? = some (.cells #[.int .i64 a1_0,.slice A1_1 l1_1.length c1_1] 25 (0,0)))∧(w'.heap[gb566]? = some (.cells #[.int .i64 t560,.slice Ao31 t561.length co31] 30 (0,0)))∧(w'.heap[gb574]? = some (.cells #[.int .i64 t570,.slice Ao41 t595.length co41] 30 (0,0)))∧(w'.heap[gb581]? = some (.cells #[.int .i64 t575,.slice Ao49 t576.length co49] 30 (0,0)))∧(w'.heap[s_.2.2.2]? = some (.cells #[.int .i64 0,.slice none 0 0] 30 (0,0)))∧(w.heap.size ≤ s_.2.2.2)∧(w.heap.size ≤ s_.2.2.2)∧(gb550≠s_.2.2.2)∧(s_.2.2.2≠gb550)∧(gb566≠s_.2.2.2)∧(s_.2.2.2≠gb566)∧(gb574≠s_.2.2.2)∧(s_.2.2.2≠gb574)∧(gb581≠s_.2.2.2)∧(s_.2.2.2≠gb581)∧(Below w.heap.size w w')) ?_ ?_
             rotate_left
             ·intro hCont
              refine two_ (i:=1) (j:=10) (Ni:=some 115) (Nj:=some 19) #[true,true,true,false,true,false,false,false,false,false,false,false,false,false] #[true,false,true,false,true,false,false,false,false,false,true,false,false,false] rfl rfl rfl rfl (two_of HT_.out (by kernel_rfl)) (by decide) (by decide) (fun K hK => ?_) (fun K hK => ?_)
              ·skip
               refine goes_ Tryd.func19 (by kernel_rfl) rfl #[.slice A0 l0.length c0] (by rfl) rfl rfl (by (try simp only [List.map_toArray,List.map_cons,List.map_nil]);first|done|rfl|(simp only [List.length_drop,List.length_take];rfl)) ?_
               with_reducible refine (laws_toStringS.calls kj85 _ _ l0 t600 _ ?side1 ?side2 A139.out).mono ?_
               (case side1 => repeat (first|exact (Kd.C_below HR0.out HB.out)|(with_reducible first|refine Kd.C_alloc ?_ _|refine Kd.C_drewN ?_ _|refine Kd.C_drew ?_)))
               (case side2 => exact HC0.out)
               rintro e w151 ⟨v601,rfl,ho0,hb⟩
               refine ⟨_,rfl,?_⟩
               have n0_:=am (Kd.R_below (kup HO_567001.out) hb)
               have n1_:=am (Kd.R_below (kup HO_575001.out) hb)
               have n2_:=am (Kd.R_below (kup HO_582001.out) hb)
               have n3_:=am (Kd.R_lower ho0 (below_size (lup HB.out)))
               have n4_:=am (blk_below (bup BK550.out) hb)
               have n5_:=am (blk_below (bup BK566.out) hb)
               have n6_:=am (blk_below (bup BK574.out) hb)
               have n7_:=am (blk_below (bup BK581.out) hb)
               have n8_:=am (below_step (lup HB.out) hb)
               clear HO_567001
               clear HO_575001
               clear HO_582001
               clear BK550
               clear BK566
               clear BK574
               clear BK581
               clear HB
               have HO_567001:=n0_
               have HO_575001:=n1_
               have HO_582001:=n2_
               have HO602:=n3_
               have BK550:=n4_
               have BK566:=n5_
               have BK574:=n6_
               have BK581:=n7_
               have HB:=n8_
               clear n0_ n1_ n2_ n3_ n4_ n5_ n6_ n7_ n8_
               (try clear hb)
               (try clear hb2)
               (try clear hk)
               (try clear hi)
               (try clear ho0)
               refine hK.out _ _ ⟨(blk_cell BK550.out 0).trans rfl,(blk_cell BK550.out 1).trans rfl⟩ (fun hHeld => ?_)
               clear hK K
               refine norm_ (a':=?_) ?_ ?_
               rotate_left
               ·show Act.put _ (some 115) _ = _
                simp only [Act.put,List.setIfInBounds_toArray,List.set_cons_zero,List.set_cons_succ,i64_w,i32_w]
                rfl
               refine two_ (i:=3) (j:=10) (Ni:=some 117) (Nj:=some 19) #[true,true,true,true,true,false,false,false,false,false,false,false,false,false] #[true,true,true,false,true,false,false,false,false,false,true,false,false,false] rfl rfl rfl rfl (two_of HT_.out (by kernel_rfl)) (by decide) (by decide) (fun K hK => ?_) (fun K hK => ?_)
               ·skip
                refine goes_ Tryd.func20 (by kernel_rfl) rfl #[.agg #[.int .i64 a1_0,.slice A1_1 l1_1.length c1_1]] (by rfl) rfl rfl (by (try simp only [List.map_toArray,List.map_cons,List.map_nil]);first|done|rfl|(simp only [List.length_drop,List.length_take];rfl)) ?_
                with_reducible refine (laws_toNursery.calls kj85 a1_0 _ _ l1_1 t603 t604 _ ?side1 ?side2 A140.out).mono ?_
                (case side1 => repeat (first|exact (Kd.C_below HR1_1.out HB.out)|(with_reducible first|refine Kd.C_alloc ?_ _|refine Kd.C_drewN ?_ _|refine Kd.C_drew ?_)))
                (case side2 => exact HC1_1.out)
                rintro e w152 ⟨v605,rfl,ho0,hb⟩
                refine ⟨_,rfl,?_⟩
                have n0_:=am (Kd.R_elder' (kup HO_567001.out) (Kd.R_base ho0) hb)
                have n1_:=am (Kd.R_elder' (kup HO_575001.out) (Kd.R_base ho0) hb)
                have n2_:=am (Kd.R_elder' (kup HO_582001.out) (Kd.R_base ho0) hb)
                have n3_:=am (Kd.R_below (kup HO602.out) hb)
                have n4_:=am (Kd.R_lower (Kd.R_new' (Kd.R_new' (Kd.R_new' ho0 (Kd.R_lt (kup HO_567001.out))) (Kd.R_lt (kup HO_575001.out))) (Kd.R_lt (kup HO_582001.out))) (below_size (lup HB.out)))
                have n5_:=am (blk_below (bup BK550.out) hb)
                have n6_:=am (blk_below (bup BK566.out) hb)
                have n7_:=am (blk_below (bup BK574.out) hb)
                have n8_:=am (blk_below (bup BK581.out) hb)
                have n9_:=am (below_step (lup HB.out) hb)
                clear HO_567001
                clear HO_575001
                clear HO_582001
                clear HO602
                clear BK550
                clear BK566
                clear BK574
                clear BK581
                clear HB
                have HO_567001:=n0_
                have HO_575001:=n1_
                have HO_582001:=n2_
                have HO602:=n3_
                have HO606:=n4_
                have BK550:=n5_
                have BK566:=n6_
                have BK574:=n7_
                have BK581:=n8_
                have HB:=n9_
                clear n0_ n1_ n2_ n3_ n4_ n5_ n6_ n7_ n8_ n9_
                (try clear hb)
                (try clear hb2)
                (try clear hk)
                (try clear hi)
                (try clear ho0)
                obtain ⟨Ao153,co153,eo153⟩:=Kd.R_slice HO602.out
                (first|subst eo153|(injection eo153 with f1_ f2_ f3_;have f4_:=f1_.symm;have f5_:=f3_.symm;clear f1_ f2_ f3_;subst f4_;subst f5_))
                obtain ⟨Ao154,co154,eo154⟩:=Kd.R_slice HO606.out
                (first|subst eo154|(injection eo154 with f1_ f2_ f3_;have f4_:=f1_.symm;have f5_:=f3_.symm;clear f1_ f2_ f3_;subst f4_;subst f5_))
                refine hK.out _ _ ⟨(blk_cell BK550.out 0).trans rfl,(blk_cell BK550.out 1).trans rfl⟩ (fun hHeld => ?_)
                clear hK K
                refine norm_ (a':=?_) ?_ ?_
                rotate_left
                ·show Act.put _ (some 117) _ = _
                 simp only [Act.put,List.setIfInBounds_toArray,List.set_cons_zero,List.set_cons_succ,i64_w,i32_w]
                 rfl
                refine two_ (i:=5) (j:=10) (Ni:=some 119) (Nj:=some 19) #[true,true,true,true,true,true,false,false,false,false,false,false,false,false] #[true,true,true,true,true,false,false,false,false,false,true,false,false,false] rfl rfl rfl rfl (two_of HT_.out (by kernel_rfl)) (by decide) (by decide) (fun K hK => ?_) (fun K hK => ?_)
                ·skip
                 refine goes_ Tryd.func39 (by kernel_rfl) rfl #[.slice Ao153 t600.length co153,.agg #[.int .i64 t603,.slice Ao154 t604.length co154],.int .i64 a2] (by rfl) rfl rfl (by (try simp only [List.map_toArray,List.map_cons,List.map_nil]);first|done|rfl|(simp only [List.length_drop,List.length_take];rfl)) ?_
                 with_reducible refine (impl_YoungAlloc.calls kj85 _ _ t600 t603 _ _ t604 a2 t607 t608 t611 t612 _ ?side1 ?side2 ?side3 ?side4 A141.out).mono ?_
                 (case side1 => repeat (first|exact (Kd.R_reads' HO602.out).2.2|(with_reducible first|refine Kd.C_alloc ?_ _|refine Kd.C_drewN ?_ _|refine Kd.C_drew ?_)))
                 (case side2 => exact (Kd.R_reads' HO602.out).2.1)
                 (case side3 => repeat (first|exact (Kd.R_reads' HO606.out).2.2|(with_reducible first|refine Kd.C_alloc ?_ _|refine Kd.C_drewN ?_ _|refine Kd.C_drew ?_)))
                 (case side4 => exact (Kd.R_reads' HO606.out).2.1)
                 rintro e w155 ⟨v609,rfl,ho0,hb⟩
                 refine ⟨_,rfl,?_⟩
                 have n0_:=am (Kd.R_elder' (kup HO_567001.out) (Kd.R_base ho0) hb)
                 have n1_:=am (Kd.R_elder' (kup HO_575001.out) (Kd.R_base ho0) hb)
                 have n2_:=am (Kd.R_elder' (kup HO_582001.out) (Kd.R_base ho0) hb)
                 have n3_:=am (Kd.R_below (kup HO602.out) hb)
                 have n4_:=am (Kd.R_elder' (kup HO606.out) (Kd.R_base ho0) hb)
                 have n5_:=am (Kd.R_lower (Kd.R_new' (Kd.R_new' (Kd.R_new' (Kd.R_new' ho0 (Kd.R_lt (kup HO_567001.out))) (Kd.R_lt (kup HO_575001.out))) (Kd.R_lt (kup HO_582001.out))) (Kd.R_lt (kup HO606.out))) (below_size (lup HB.out)))
                 have n6_:=am (blk_below (bup BK550.out) hb)
                 have n7_:=am (blk_below (bup BK566.out) hb)
                 have n8_:=am (blk_below (bup BK574.out) hb)
                 have n9_:=am (blk_below (bup BK581.out) hb)
                 have n10_:=am (below_step (lup HB.out) hb)
                 clear HO_567001
                 clear HO_575001
                 clear HO_582001
                 clear HO602
                 clear HO606
                 clear BK550
                 clear BK566
                 clear BK574
                 clear BK581
                 clear HB
                 have HO_567001:=n0_
                 have HO_575001:=n1_
                 have HO_582001:=n2_
                 have HO602:=n3_
                 have HO606:=n4_
                 have HO610:=n5_
                 have BK550:=n6_
                 have BK566:=n7_
                 have BK574:=n8_
                 have BK581:=n9_
                 have HB:=n10_
                 clear n0_ n1_ n2_ n3_ n4_ n5_ n6_ n7_ n8_ n9_ n10_
                 (try clear hb)
                 (try clear hb2)
                 (try clear hk)
                 (try clear hi)
                 (try clear ho0)
                 refine hK.out _ _ ⟨(blk_cell BK550.out 0).trans rfl,(blk_cell BK550.out 1).trans rfl⟩ (fun hHeld => ?_)
                 clear hK K
                 refine norm_ (a':=?_) ?_ ?_
                 rotate_left
                 ·show Act.put _ (some 119) _ = _
                  simp only [Act.put,List.setIfInBounds_toArray,List.set_cons_zero,List.set_cons_succ,i64_w,i32_w]
                  rfl
                 refine pure_ (i:=6) (N:=some 113) (v:=?_) (a':=?_) #[true,true,true,true,true,true,true,false,false,false,false,false,false,false] rfl rfl (any_of HT_.out (by kernel_rfl)) (fun _ _ _ h => h) (Or.inl ⟨by rfl,?_⟩) ?_ ?_
                 rotate_left
                 ·intro w'
                  go_simp
                  with_reducible rfl
                 rotate_left
                 ·simp only [Act.put,List.setIfInBounds_toArray,List.set_cons_zero,List.set_cons_succ,i64_w,i32_w]
                  rfl
                 refine pure_ (i:=7) (N:=some 120) (v:=?_) (a':=?_) #[true,true,true,true,true,true,true,true,false,false,false,false,false,false] rfl rfl (any_of HT_.out (by kernel_rfl)) (fun _ _ _ h => h) (Or.inl ⟨by rfl,?_⟩) ?_ ?_
                 rotate_left
                 ·intro w'
                  go_simp
                  with_reducible rfl
                 rotate_left
                 ·simp only [Act.put,List.setIfInBounds_toArray,List.set_cons_zero,List.set_cons_succ,i64_w,i32_w]
                  rfl
                 refine pure_ (i:=8) (N:=some 121) (v:=?_) (a':=?_) #[true,true,true,true,true,true,true,true,true,false,false,false,false,false] rfl rfl (any_of HT_.out (by kernel_rfl)) (fun _ _ _ h => h) (Or.inl ⟨by rfl,?_⟩) ?_ ?_
                 rotate_left
                 ·intro w'
                  go_simp
                  with_reducible rfl
                 rotate_left
                 ·simp only [Act.put,List.setIfInBounds_toArray,List.set_cons_zero,List.set_cons_succ,i64_w,i32_w]
                  rfl
                 refine pure_ (i:=9) (N:=some 122) (v:=?_) (a':=?_) #[true,true,true,true,true,true,true,true,true,true,false,false,false,false] rfl rfl (any_of HT_.out (by kernel_rfl)) (fun _ _ _ h => h) (Or.inl ⟨by rfl,?_⟩) ?_ ?_
                 rotate_left
                 ·intro w'
                  go_simp
                  with_reducible rfl
                 rotate_left
                 ·simp only [Act.put,List.setIfInBounds_toArray,List.set_cons_zero,List.set_cons_succ,i64_w,i32_w]
                  rfl
                 refine one_ (i:=10) (N:=some 19) #[true,true,true,true,true,true,true,true,true,true,true,false,false,false] rfl rfl (one_of HT_.out (by kernel_rfl)) (by decide) (fun K hK => ?_)
                 refine box_step ?hg (N:=19) ?hd (cs:=#[.int .i64 0,.slice none 0 0]) (t:=30) ?hr ?_;(case hd => rfl);(case hg => rfl);(case hr => first|(go_simp;done)|(go_simp;rfl))
                 intro gb613 hg w156 hbox hb
                 have n0_:=am (Kd.R_below (kup HO_567001.out) hb)
                 have n1_:=am (Kd.R_below (kup HO_575001.out) hb)
                 have n2_:=am (Kd.R_below (kup HO_582001.out) hb)
                 have n3_:=am (Kd.R_below (kup HO602.out) hb)
                 have n4_:=am (Kd.R_below (kup HO606.out) hb)
                 have n5_:=am (Kd.R_below (kup HO610.out) hb)
                 have n6_:=am (blk_below (bup BK550.out) hb)
                 have n7_:=am (blk_below (bup BK566.out) hb)
                 have n8_:=am (blk_below (bup BK574.out) hb)
                 have n9_:=am (blk_below (bup BK581.out) hb)
                 have n10_:=am (below_step (lup HB.out) hb)
                 have n11_:=am (hbox)
                 have n12_:=am ((by rw [hg];exact (below_size (lup HB.out)) : w.heap.size ≤ gb613))
                 have n13_:=am ((by rw [hg];exact (below_size (lup HB.out)) : w.heap.size ≤ gb613))
                 have n14_:=am ((by rw [hg];exact Nat.ne_of_lt (blk_lt (bup BK550.out)) : gb550≠gb613))
                 have n15_:=am ((by rw [hg];exact Nat.ne_of_gt (blk_lt (bup BK550.out)) : gb613≠gb550))
                 have n16_:=am ((by rw [hg];exact Nat.ne_of_lt (blk_lt (bup BK566.out)) : gb566≠gb613))
                 have n17_:=am ((by rw [hg];exact Nat.ne_of_gt (blk_lt (bup BK566.out)) : gb613≠gb566))
                 have n18_:=am ((by rw [hg];exact Nat.ne_of_lt (blk_lt (bup BK574.out)) : gb574≠gb613))
                 have n19_:=am ((by rw [hg];exact Nat.ne_of_gt (blk_lt (bup BK574.out)) : gb613≠gb574))
                 have n20_:=am ((by rw [hg];exact Nat.ne_of_lt (blk_lt (bup BK581.out)) : gb581≠gb613))
                 have n21_:=am ((by rw [hg];exact Nat.ne_of_gt (blk_lt (bup BK581.out)) : gb613≠gb581))
                 clear HO_567001
                 clear HO_575001
                 clear HO_582001
                 clear HO602
                 clear HO606
                 clear HO610
                 clear BK550
                 clear BK566
                 clear BK574
                 clear BK581
                 clear HB
                 have HO_567001:=n0_
                 have HO_575001:=n1_
                 have HO_582001:=n2_
                 have HO602:=n3_
                 have HO606:=n4_
                 have HO610:=n5_
                 have BK550:=n6_
                 have BK566:=n7_
                 have BK574:=n8_
                 have BK581:=n9_
                 have HB:=n10_
                 have BK613:=n11_
                 have GW613:=n12_
                 have GE613:=n13_
                 have NB550_613:=n14_
                 have NB613_550:=n15_
                 have NB566_613:=n16_
                 have NB613_566:=n17_
                 have NB574_613:=n18_
                 have NB613_574:=n19_
                 have NB581_613:=n20_
                 have NB613_581:=n21_
                 clear n0_ n1_ n2_ n3_ n4_ n5_ n6_ n7_ n8_ n9_ n10_ n11_ n12_ n13_ n14_ n15_ n16_ n17_ n18_ n19_ n20_ n21_
                 clear hb hbox hg
                 refine hK.out _ _ ⟨(blk_cell BK550.out 0).trans rfl,(blk_cell BK550.out 1).trans rfl⟩ (fun hHeld => ?_)
                 clear hK K
                 refine norm_ (a':=?_) ?_ ?_
                 rotate_left
                 ·show Act.put _ (some 19) _ = _
                  simp only [Act.put,List.setIfInBounds_toArray,List.set_cons_zero,List.set_cons_succ,i64_w,i32_w]
                  rfl
                 exact norm_ (by simp only [putAll,Act.put,List.setIfInBounds_toArray,List.set_cons_zero,List.set_cons_succ]) (hCont (.slice Ao153 t600.length co153,.slice Ao154 t604.length co154,v609,gb613) _ ⟨hHeld,(kup HO602.out),(kup (Kd.R_mono HO606.out (fun _ hk => ⟨hk.2,⟨hk.1.1.1.2,⟨hk.1.1.2,hk.1.2⟩⟩⟩))),(kup (Kd.R_mono HO610.out (fun _ hk => ⟨hk.2,⟨hk.1.1.1.2,⟨hk.1.1.2,hk.1.2⟩⟩⟩))),(kup (Kd.R_mono HO_567001.out (fun _ hk => ⟨hk.1.2,⟨hk.2,⟨hk.1.1.1,hk.1.1.2⟩⟩⟩))),(kup (Kd.R_mono HO_575001.out (fun _ hk => ⟨hk.1.2,⟨hk.2,⟨hk.1.1.1,hk.1.1.2⟩⟩⟩))),(kup (Kd.R_mono HO_582001.out (fun _ hk => ⟨hk.1.2,⟨hk.2,⟨hk.1.1.1,hk.1.1.2⟩⟩⟩))),(bup BK550.out),(bup BK566.out),(bup BK574.out),(bup BK581.out),(bup BK613.out),GW613.out,GE613.out,NB550_613.out,NB613_550.out,NB566_613.out,NB613_566.out,NB574_613.out,NB613_574.out,NB581_613.out,NB613_581.out,(lup HB.out)⟩)
                ·skip
                 refine box_step ?hg (N:=19) ?hd (cs:=#[.int .i64 0,.slice none 0 0]) (t:=30) ?hr ?_;(case hd => rfl);(case hg => rfl);(case hr => first|(go_simp;done)|(go_simp;rfl))
                 intro gb613 hg w153 hbox hb
                 have n0_:=am (Kd.R_below (kup HO_567001.out) hb)
                 have n1_:=am (Kd.R_below (kup HO_575001.out) hb)
                 have n2_:=am (Kd.R_below (kup HO_582001.out) hb)
                 have n3_:=am (Kd.R_below (kup HO602.out) hb)
                 have n4_:=am (Kd.R_below (kup HO606.out) hb)
                 have n5_:=am (blk_below (bup BK550.out) hb)
                 have n6_:=am (blk_below (bup BK566.out) hb)
                 have n7_:=am (blk_below (bup BK574.out) hb)
                 have n8_:=am (blk_below (bup BK581.out) hb)
                 have n9_:=am (below_step (lup HB.out) hb)
                 have n10_:=am (hbox)
                 have n11_:=am ((by rw [hg];exact (below_size (lup HB.out)) : w.heap.size ≤ gb613))
                 have n12_:=am ((by rw [hg];exact (below_size (lup HB.out)) : w.heap.size ≤ gb613))
                 have n13_:=am ((by rw [hg];exact Nat.ne_of_lt (blk_lt (bup BK550.out)) : gb550≠gb613))
                 have n14_:=am ((by rw [hg];exact Nat.ne_of_gt (blk_lt (bup BK550.out)) : gb613≠gb550))
                 have n15_:=am ((by rw [hg];exact Nat.ne_of_lt (blk_lt (bup BK566.out)) : gb566≠gb613))
                 have n16_:=am ((by rw [hg];exact Nat.ne_of_gt (blk_lt (bup BK566.out)) : gb613≠gb566))
                 have n17_:=am ((by rw [hg];exact Nat.ne_of_lt (blk_lt (bup BK574.out)) : gb574≠gb613))
                 have n18_:=am ((by rw [hg];exact Nat.ne_of_gt (blk_lt (bup BK574.out)) : gb613≠gb574))
                 have n19_:=am ((by rw [hg];exact Nat.ne_of_lt (blk_lt (bup BK581.out)) : gb581≠gb613))
                 have n20_:=am ((by rw [hg];exact Nat.ne_of_gt (blk_lt (bup BK581.out)) : gb613≠gb581))
                 clear HO_567001
                 clear HO_575001
                 clear HO_582001
                 clear HO602
                 clear HO606
                 clear BK550
                 clear BK566
                 clear BK574
                 clear BK581
                 clear HB
                 have HO_567001:=n0_
                 have HO_575001:=n1_
                 have HO_582001:=n2_
                 have HO602:=n3_
                 have HO606:=n4_
                 have BK550:=n5_
                 have BK566:=n6_
                 have BK574:=n7_
                 have BK581:=n8_
                 have HB:=n9_
                 have BK613:=n10_
                 have GW613:=n11_
                 have GE613:=n12_
                 have NB550_613:=n13_
                 have NB613_550:=n14_
                 have NB566_613:=n15_
                 have NB613_566:=n16_
                 have NB574_613:=n17_
                 have NB613_574:=n18_
                 have NB581_613:=n19_
                 have NB613_581:=n20_
                 clear n0_ n1_ n2_ n3_ n4_ n5_ n6_ n7_ n8_ n9_ n10_ n11_ n12_ n13_ n14_ n15_ n16_ n17_ n18_ n19_ n20_
                 clear hb hbox hg
                 obtain ⟨Ao154,co154,eo154⟩:=Kd.R_slice HO602.out
                 (first|subst eo154|(injection eo154 with f1_ f2_ f3_;have f4_:=f1_.symm;have f5_:=f3_.symm;clear f1_ f2_ f3_;subst f4_;subst f5_))
                 obtain ⟨Ao155,co155,eo155⟩:=Kd.R_slice HO606.out
                 (first|subst eo155|(injection eo155 with f1_ f2_ f3_;have f4_:=f1_.symm;have f5_:=f3_.symm;clear f1_ f2_ f3_;subst f4_;subst f5_))
                 refine hK.out _ _ ⟨(blk_cell BK550.out 0).trans rfl,(blk_cell BK550.out 1).trans rfl⟩ (fun hHeld => ?_)
                 clear hK K
                 refine norm_ (a':=?_) ?_ ?_
                 rotate_left
                 ·show Act.put _ (some 19) _ = _
                  simp only [Act.put,List.setIfInBounds_toArray,List.set_cons_zero,List.set_cons_succ,i64_w,i32_w]
                  rfl
                 refine one_ (i:=5) (N:=some 119) #[true,true,true,true,true,true,false,false,false,false,true,false,false,false] rfl rfl (one_of HT_.out (by kernel_rfl)) (by decide) (fun K hK => ?_)
                 refine goes_ Tryd.func39 (by kernel_rfl) rfl #[.slice Ao154 t600.length co154,.agg #[.int .i64 t603,.slice Ao155 t604.length co155],.int .i64 a2] (by rfl) rfl rfl (by (try simp only [List.map_toArray,List.map_cons,List.map_nil]);first|done|rfl|(simp only [List.length_drop,List.length_take];rfl)) ?_
                 with_reducible refine (impl_YoungAlloc.calls kj85 _ _ t600 t603 _ _ t604 a2 t607 t608 t611 t612 _ ?side1 ?side2 ?side3 ?side4 A141.out).mono ?_
                 (case side1 => repeat (first|exact (Kd.R_reads' HO602.out).2.2|(with_reducible first|refine Kd.C_alloc ?_ _|refine Kd.C_drewN ?_ _|refine Kd.C_drew ?_)))
                 (case side2 => exact (Kd.R_reads' HO602.out).2.1)
                 (case side3 => repeat (first|exact (Kd.R_reads' HO606.out).2.2|(with_reducible first|refine Kd.C_alloc ?_ _|refine Kd.C_drewN ?_ _|refine Kd.C_drew ?_)))
                 (case side4 => exact (Kd.R_reads' HO606.out).2.1)
                 rintro e w156 ⟨v609,rfl,ho0,hb⟩
                 refine ⟨_,rfl,?_⟩
                 have n0_:=am (Kd.R_elder' (kup HO_567001.out) (Kd.R_base ho0) hb)
                 have n1_:=am (Kd.R_elder' (kup HO_575001.out) (Kd.R_base ho0) hb)
                 have n2_:=am (Kd.R_elder' (kup HO_582001.out) (Kd.R_base ho0) hb)
                 have n3_:=am (Kd.R_below (kup HO602.out) hb)
                 have n4_:=am (Kd.R_elder' (kup HO606.out) (Kd.R_base ho0) hb)
                 have n5_:=am (Kd.R_lower (Kd.R_new' (Kd.R_new' (Kd.R_new' (Kd.R_new' ho0 (Kd.R_lt (kup HO_567001.out))) (Kd.R_lt (kup HO_575001.out))) (Kd.R_lt (kup HO_582001.out))) (Kd.R_lt (kup HO606.out))) (below_size (lup HB.out)))
                 have n6_:=am (blk_below (bup BK550.out) hb)
                 have n7_:=am (blk_below (bup BK566.out) hb)
                 have n8_:=am (blk_below (bup BK574.out) hb)
                 have n9_:=am (blk_below (bup BK581.out) hb)
                 have n10_:=am (blk_below (bup BK613.out) hb)
                 have n11_:=am (below_step (lup HB.out) hb)
                 clear HO_567001
                 clear HO_575001
                 clear HO_582001
                 clear HO602
                 clear HO606
                 clear BK550
                 clear BK566
                 clear BK574
                 clear BK581
                 clear BK613
                 clear HB
                 have HO_567001:=n0_
                 have HO_575001:=n1_
                 have HO_582001:=n2_
                 have HO602:=n3_
                 have HO606:=n4_
                 have HO610:=n5_
                 have BK550:=n6_
                 have BK566:=n7_
                 have BK574:=n8_
                 have BK581:=n9_
                 have BK613:=n10_
                 have HB:=n11_
                 clear n0_ n1_ n2_ n3_ n4_ n5_ n6_ n7_ n8_ n9_ n10_ n11_
                 (try clear hb)
                 (try clear hb2)
                 (try clear hk)
                 (try clear hi)
                 (try clear ho0)
                 refine hK.out _ _ ⟨(blk_cell BK550.out 0).trans rfl,(blk_cell BK550.out 1).trans rfl⟩ (fun hHeld => ?_)
                 clear hK K
                 refine norm_ (a':=?_) ?_ ?_
                 rotate_left
                 ·show Act.put _ (some 119) _ = _
                  simp only [Act.put,List.setIfInBounds_toArray,List.set_cons_zero,List.set_cons_succ,i64_w,i32_w]
                  rfl
                 refine pure_ (i:=6) (N:=some 113) (v:=?_) (a':=?_) #[true,true,true,true,true,true,true,false,false,false,true,false,false,false] rfl rfl (any_of HT_.out (by kernel_rfl)) (fun _ _ _ h => h) (Or.inl ⟨by rfl,?_⟩) ?_ ?_
                 rotate_left
                 ·intro w'
                  go_simp
                  with_reducible rfl
                 rotate_left
                 ·simp only [Act.put,List.setIfInBounds_toArray,List.set_cons_zero,List.set_cons_succ,i64_w,i32_w]
                  rfl
                 refine pure_ (i:=7) (N:=some 120) (v:=?_) (a':=?_) #[true,true,true,true,true,true,true,true,false,false,true,false,false,false] rfl rfl (any_of HT_.out (by kernel_rfl)) (fun _ _ _ h => h) (Or.inl ⟨by rfl,?_⟩) ?_ ?_
                 rotate_left
                 ·intro w'
                  go_simp
                  with_reducible rfl
                 rotate_left
                 ·simp only [Act.put,List.setIfInBounds_toArray,List.set_cons_zero,List.set_cons_succ,i64_w,i32_w]
                  rfl
                 refine pure_ (i:=8) (N:=some 121) (v:=?_) (a':=?_) #[true,true,true,true,true,true,true,true,true,false,true,false,false,false] rfl rfl (any_of HT_.out (by kernel_rfl)) (fun _ _ _ h => h) (Or.inl ⟨by rfl,?_⟩) ?_ ?_
                 rotate_left
                 ·intro w'
                  go_simp
                  with_reducible rfl
                 rotate_left
                 ·simp only [Act.put,List.setIfInBounds_toArray,List.set_cons_zero,List.set_cons_succ,i64_w,i32_w]
                  rfl
                 refine pure_ (i:=9) (N:=some 122) (v:=?_) (a':=?_) #[true,true,true,true,true,true,true,true,true,true,true,false,false,false] rfl rfl (any_of HT_.out (by kernel_rfl)) (fun _ _ _ h => h) (Or.inl ⟨by rfl,?_⟩) ?_ ?_
                 rotate_left
                 ·intro w'
                  go_simp
                  with_reducible rfl
                 rotate_left
                 ·simp only [Act.put,List.setIfInBounds_toArray,List.set_cons_zero,List.set_cons_succ,i64_w,i32_w]
                  rfl
                 exact norm_ (by simp only [putAll,Act.put,List.setIfInBounds_toArray,List.set_cons_zero,List.set_cons_succ]) (hCont (.slice Ao154 t600.length co154,.slice Ao155 t604.length co155,v609,gb613) _ ⟨hHeld,(kup HO602.out),(kup (Kd.R_mono HO606.out (fun _ hk => ⟨hk.2,⟨hk.1.1.1.2,⟨hk.1.1.2,hk.1.2⟩⟩⟩))),(kup (Kd.R_mono HO610.out (fun _ hk => ⟨hk.2,⟨hk.1.1.1.2,⟨hk.1.1.2,hk.1.2⟩⟩⟩))),(kup (Kd.R_mono HO_567001.out (fun _ hk => ⟨hk.1.2,⟨hk.2,⟨hk.1.1.1,hk.1.1.2⟩⟩⟩))),(kup (Kd.R_mono HO_575001.out (fun _ hk => ⟨hk.1.2,⟨hk.2,⟨hk.1.1.1,hk.1.1.2⟩⟩⟩))),(kup (Kd.R_mono HO_582001.out (fun _ hk => ⟨hk.1.2,⟨hk.2,⟨hk.1.1.1,hk.1.1.2⟩⟩⟩))),(bup BK550.out),(bup BK566.out),(bup BK574.out),(bup BK581.out),(bup BK613.out),GW613.out,GE613.out,NB550_613.out,NB613_550.out,NB566_613.out,NB613_566.out,NB574_613.out,NB613_574.out,NB581_613.out,NB613_581.out,(lup HB.out)⟩)
               ·skip
                refine box_step ?hg (N:=19) ?hd (cs:=#[.int .i64 0,.slice none 0 0]) (t:=30) ?hr ?_;(case hd => rfl);(case hg => rfl);(case hr => first|(go_simp;done)|(go_simp;rfl))
                intro gb613 hg w152 hbox hb
                have n0_:=am (Kd.R_below (kup HO_567001.out) hb)
                have n1_:=am (Kd.R_below (kup HO_575001.out) hb)
                have n2_:=am (Kd.R_below (kup HO_582001.out) hb)
                have n3_:=am (Kd.R_below (kup HO602.out) hb)
                have n4_:=am (blk_below (bup BK550.out) hb)
                have n5_:=am (blk_below (bup BK566.out) hb)
                have n6_:=am (blk_below (bup BK574.out) hb)
                have n7_:=am (blk_below (bup BK581.out) hb)
                have n8_:=am (below_step (lup HB.out) hb)
                have n9_:=am (hbox)
                have n10_:=am ((by rw [hg];exact (below_size (lup HB.out)) : w.heap.size ≤ gb613))
                have n11_:=am ((by rw [hg];exact (below_size (lup HB.out)) : w.heap.size ≤ gb613))
                have n12_:=am ((by rw [hg];exact Nat.ne_of_lt (blk_lt (bup BK550.out)) : gb550≠gb613))
                have n13_:=am ((by rw [hg];exact Nat.ne_of_gt (blk_lt (bup BK550.out)) : gb613≠gb550))
                have n14_:=am ((by rw [hg];exact Nat.ne_of_lt (blk_lt (bup BK566.out)) : gb566≠gb613))
                have n15_:=am ((by rw [hg];exact Nat.ne_of_gt (blk_lt (bup BK566.out)) : gb613≠gb566))
                have n16_:=am ((by rw [hg];exact Nat.ne_of_lt (blk_lt (bup BK574.out)) : gb574≠gb613))
                have n17_:=am ((by rw [hg];exact Nat.ne_of_gt (blk_lt (bup BK574.out)) : gb613≠gb574))
                have n18_:=am ((by rw [hg];exact Nat.ne_of_lt (blk_lt (bup BK581.out)) : gb581≠gb613))
                have n19_:=am ((by rw [hg];exact Nat.ne_of_gt (blk_lt (bup BK581.out)) : gb613≠gb581))
                clear HO_567001
                clear HO_575001
                clear HO_582001
                clear HO602
                clear BK550
                clear BK566
                clear BK574
                clear BK581
                clear HB
                have HO_567001:=n0_
                have HO_575001:=n1_
                have HO_582001:=n2_
                have HO602:=n3_
                have BK550:=n4_
                have BK566:=n5_
                have BK574:=n6_
                have BK581:=n7_
                have HB:=n8_
                have BK613:=n9_
                have GW613:=n10_
                have GE613:=n11_
                have NB550_613:=n12_
                have NB613_550:=n13_
                have NB566_613:=n14_
                have NB613_566:=n15_
                have NB574_613:=n16_
                have NB613_574:=n17_
                have NB581_613:=n18_
                have NB613_581:=n19_
                clear n0_ n1_ n2_ n3_ n4_ n5_ n6_ n7_ n8_ n9_ n10_ n11_ n12_ n13_ n14_ n15_ n16_ n17_ n18_ n19_
                clear hb hbox hg
                refine hK.out _ _ ⟨(blk_cell BK550.out 0).trans rfl,(blk_cell BK550.out 1).trans rfl⟩ (fun hHeld => ?_)
                clear hK K
                refine norm_ (a':=?_) ?_ ?_
                rotate_left
                ·show Act.put _ (some 19) _ = _
                 simp only [Act.put,List.setIfInBounds_toArray,List.set_cons_zero,List.set_cons_succ,i64_w,i32_w]
                 rfl
                refine one_ (i:=3) (N:=some 117) #[true,true,true,true,true,false,false,false,false,false,true,false,false,false] rfl rfl (one_of HT_.out (by kernel_rfl)) (by decide) (fun K hK => ?_)
                refine goes_ Tryd.func20 (by kernel_rfl) rfl #[.agg #[.int .i64 a1_0,.slice A1_1 l1_1.length c1_1]] (by rfl) rfl rfl (by (try simp only [List.map_toArray,List.map_cons,List.map_nil]);first|done|rfl|(simp only [List.length_drop,List.length_take];rfl)) ?_
                with_reducible refine (laws_toNursery.calls kj85 a1_0 _ _ l1_1 t603 t604 _ ?side1 ?side2 A140.out).mono ?_
                (case side1 => repeat (first|exact (Kd.C_below HR1_1.out HB.out)|(with_reducible first|refine Kd.C_alloc ?_ _|refine Kd.C_drewN ?_ _|refine Kd.C_drew ?_)))
                (case side2 => exact HC1_1.out)
                rintro e w153 ⟨v605,rfl,ho0,hb⟩
                refine ⟨_,rfl,?_⟩
                have n0_:=am (Kd.R_elder' (kup HO_567001.out) (Kd.R_base ho0) hb)
                have n1_:=am (Kd.R_elder' (kup HO_575001.out) (Kd.R_base ho0) hb)
                have n2_:=am (Kd.R_elder' (kup HO_582001.out) (Kd.R_base ho0) hb)
                have n3_:=am (Kd.R_below (kup HO602.out) hb)
                have n4_:=am (Kd.R_lower (Kd.R_new' (Kd.R_new' (Kd.R_new' ho0 (Kd.R_lt (kup HO_567001.out))) (Kd.R_lt (kup HO_575001.out))) (Kd.R_lt (kup HO_582001.out))) (below_size (lup HB.out)))
                have n5_:=am (blk_below (bup BK550.out) hb)
                have n6_:=am (blk_below (bup BK566.out) hb)
                have n7_:=am (blk_below (bup BK574.out) hb)
                have n8_:=am (blk_below (bup BK581.out) hb)
                have n9_:=am (blk_below (bup BK613.out) hb)
                have n10_:=am (below_step (lup HB.out) hb)
                clear HO_567001
                clear HO_575001
                clear HO_582001
                clear HO602
                clear BK550
                clear BK566
                clear BK574
                clear BK581
                clear BK613
                clear HB
                have HO_567001:=n0_
                have HO_575001:=n1_
                have HO_582001:=n2_
                have HO602:=n3_
                have HO606:=n4_
                have BK550:=n5_
                have BK566:=n6_
                have BK574:=n7_
                have BK581:=n8_
                have BK613:=n9_
                have HB:=n10_
                clear n0_ n1_ n2_ n3_ n4_ n5_ n6_ n7_ n8_ n9_ n10_
                (try clear hb)
                (try clear hb2)
                (try clear hk)
                (try clear hi)
                (try clear ho0)
                obtain ⟨Ao154,co154,eo154⟩:=Kd.R_slice HO602.out
                (first|subst eo154|(injection eo154 with f1_ f2_ f3_;have f4_:=f1_.symm;have f5_:=f3_.symm;clear f1_ f2_ f3_;subst f4_;subst f5_))
                obtain ⟨Ao155,co155,eo155⟩:=Kd.R_slice HO606.out
                (first|subst eo155|(injection eo155 with f1_ f2_ f3_;have f4_:=f1_.symm;have f5_:=f3_.symm;clear f1_ f2_ f3_;subst f4_;subst f5_))
                refine hK.out _ _ ⟨(blk_cell BK550.out 0).trans rfl,(blk_cell BK550.out 1).trans rfl⟩ (fun hHeld => ?_)
                clear hK K
                refine norm_ (a':=?_) ?_ ?_
                rotate_left
                ·show Act.put _ (some 117) _ = _
                 simp only [Act.put,List.setIfInBounds_toArray,List.set_cons_zero,List.set_cons_succ,i64_w,i32_w]
                 rfl
                refine one_ (i:=5) (N:=some 119) #[true,true,true,true,true,true,false,false,false,false,true,false,false,false] rfl rfl (one_of HT_.out (by kernel_rfl)) (by decide) (fun K hK => ?_)
                refine goes_ Tryd.func39 (by kernel_rfl) rfl #[.slice Ao154 t600.length co154,.agg #[.int .i64 t603,.slice Ao155 t604.length co155],.int .i64 a2] (by rfl) rfl rfl (by (try simp only [List.map_toArray,List.map_cons,List.map_nil]);first|done|rfl|(simp only [List.length_drop,List.length_take];rfl)) ?_
                with_reducible refine (impl_YoungAlloc.calls kj85 _ _ t600 t603 _ _ t604 a2 t607 t608 t611 t612 _ ?side1 ?side2 ?side3 ?side4 A141.out).mono ?_
                (case side1 => repeat (first|exact (Kd.R_reads' HO602.out).2.2|(with_reducible first|refine Kd.C_alloc ?_ _|refine Kd.C_drewN ?_ _|refine Kd.C_drew ?_)))
                (case side2 => exact (Kd.R_reads' HO602.out).2.1)
                (case side3 => repeat (first|exact (Kd.R_reads' HO606.out).2.2|(with_reducible first|refine Kd.C_alloc ?_ _|refine Kd.C_drewN ?_ _|refine Kd.C_drew ?_)))
                (case side4 => exact (Kd.R_reads' HO606.out).2.1)
                rintro e w156 ⟨v609,rfl,ho0,hb⟩
                refine ⟨_,rfl,?_⟩
                have n0_:=am (Kd.R_elder' (kup HO_567001.out) (Kd.R_base ho0) hb)
                have n1_:=am (Kd.R_elder' (kup HO_575001.out) (Kd.R_base ho0) hb)
                have n2_:=am (Kd.R_elder' (kup HO_582001.out) (Kd.R_base ho0) hb)
                have n3_:=am (Kd.R_below (kup HO602.out) hb)
                have n4_:=am (Kd.R_elder' (kup HO606.out) (Kd.R_base ho0) hb)
                have n5_:=am (Kd.R_lower (Kd.R_new' (Kd.R_new' (Kd.R_new' (Kd.R_new' ho0 (Kd.R_lt (kup HO_567001.out))) (Kd.R_lt (kup HO_575001.out))) (Kd.R_lt (kup HO_582001.out))) (Kd.R_lt (kup HO606.out))) (below_size (lup HB.out)))
                have n6_:=am (blk_below (bup BK550.out) hb)
                have n7_:=am (blk_below (bup BK566.out) hb)
                have n8_:=am (blk_below (bup BK574.out) hb)
                have n9_:=am (blk_below (bup BK581.out) hb)
                have n10_:=am (blk_below (bup BK613.out) hb)
                have n11_:=am (below_step (lup HB.out) hb)
                clear HO_567001
                clear HO_575001
                clear HO_582001
                clear HO602
                clear HO606
                clear BK550
                clear BK566
                clear BK574
                clear BK581
                clear BK613
                clear HB
                have HO_567001:=n0_
                have HO_575001:=n1_
                have HO_582001:=n2_
                have HO602:=n3_
                have HO606:=n4_
                have HO610:=n5_
                have BK550:=n6_
                have BK566:=n7_
                have BK574:=n8_
                have BK581:=n9_
                have BK613:=n10_
                have HB:=n11_
                clear n0_ n1_ n2_ n3_ n4_ n5_ n6_ n7_ n8_ n9_ n10_ n11_
                (try clear hb)
                (try clear hb2)
                (try clear hk)
                (try clear hi)
                (try clear ho0)
                refine hK.out _ _ ⟨(blk_cell BK550.out 0).trans rfl,(blk_cell BK550.out 1).trans rfl⟩ (fun hHeld => ?_)
                clear hK K
                refine norm_ (a':=?_) ?_ ?_
                rotate_left
                ·show Act.put _ (some 119) _ = _
                 simp only [Act.put,List.setIfInBounds_toArray,List.set_cons_zero,List.set_cons_succ,i64_w,i32_w]
                 rfl
                refine pure_ (i:=6) (N:=some 113) (v:=?_) (a':=?_) #[true,true,true,true,true,true,true,false,false,false,true,false,false,false] rfl rfl (any_of HT_.out (by kernel_rfl)) (fun _ _ _ h => h) (Or.inl ⟨by rfl,?_⟩) ?_ ?_
                rotate_left
                ·intro w'
                 go_simp
                 with_reducible rfl
                rotate_left
                ·simp only [Act.put,List.setIfInBounds_toArray,List.set_cons_zero,List.set_cons_succ,i64_w,i32_w]
                 rfl
                refine pure_ (i:=7) (N:=some 120) (v:=?_) (a':=?_) #[true,true,true,true,true,true,true,true,false,false,true,false,false,false] rfl rfl (any_of HT_.out (by kernel_rfl)) (fun _ _ _ h => h) (Or.inl ⟨by rfl,?_⟩) ?_ ?_
                rotate_left
                ·intro w'
                 go_simp
                 with_reducible rfl
                rotate_left
                ·simp only [Act.put,List.setIfInBounds_toArray,List.set_cons_zero,List.set_cons_succ,i64_w,i32_w]
                 rfl
                refine pure_ (i:=8) (N:=some 121) (v:=?_) (a':=?_) #[true,true,true,true,true,true,true,true,true,false,true,false,false,false] rfl rfl (any_of HT_.out (by kernel_rfl)) (fun _ _ _ h => h) (Or.inl ⟨by rfl,?_⟩) ?_ ?_
                rotate_left
                ·intro w'
                 go_simp
                 with_reducible rfl
                rotate_left
                ·simp only [Act.put,List.setIfInBounds_toArray,List.set_cons_zero,List.set_cons_succ,i64_w,i32_w]
                 rfl
                refine pure_ (i:=9) (N:=some 122) (v:=?_) (a':=?_) #[true,true,true,true,true,true,true,true,true,true,true,false,false,false] rfl rfl (any_of HT_.out (by kernel_rfl)) (fun _ _ _ h => h) (Or.inl ⟨by rfl,?_⟩) ?_ ?_
                rotate_left
                ·intro w'
                 go_simp
                 with_reducible rfl
                rotate_left
                ·simp only [Act.put,List.setIfInBounds_toArray,List.set_cons_zero,List.set_cons_succ,i64_w,i32_w]
                 rfl
                exact norm_ (by simp only [putAll,Act.put,List.setIfInBounds_toArray,List.set_cons_zero,List.set_cons_succ]) (hCont (.slice Ao154 t600.length co154,.slice Ao155 t604.length co155,v609,gb613) _ ⟨hHeld,(kup HO602.out),(kup (Kd.R_mono HO606.out (fun _ hk => ⟨hk.2,⟨hk.1.1.1.2,⟨hk.1.1.2,hk.1.2⟩⟩⟩))),(kup (Kd.R_mono HO610.out (fun _ hk => ⟨hk.2,⟨hk.1.1.1.2,⟨hk.1.1.2,hk.1.2⟩⟩⟩))),(kup (Kd.R_mono HO_567001.out (fun _ hk => ⟨hk.1.2,⟨hk.2,⟨hk.1.1.1,hk.1.1.2⟩⟩⟩))),(kup (Kd.R_mono HO_575001.out (fun _ hk => ⟨hk.1.2,⟨hk.2,⟨hk.1.1.1,hk.1.1.2⟩⟩⟩))),(kup (Kd.R_mono HO_582001.out (fun _ hk => ⟨hk.1.2,⟨hk.2,⟨hk.1.1.1,hk.1.1.2⟩⟩⟩))),(bup BK550.out),(bup BK566.out),(bup BK574.out),(bup BK581.out),(bup BK613.out),GW613.out,GE613.out,NB550_613.out,NB613_550.out,NB566_613.out,NB613_566.out,NB574_613.out,NB613_574.out,NB581_613.out,NB613_581.out,(lup HB.out)⟩)
              ·skip
               refine box_step ?hg (N:=19) ?hd (cs:=#[.int .i64 0,.slice none 0 0]) (t:=30) ?hr ?_;(case hd => rfl);(case hg => rfl);(case hr => first|(go_simp;done)|(go_simp;rfl))
               intro gb613 hg w151 hbox hb
               have n0_:=am (Kd.R_below (kup HO_567001.out) hb)
               have n1_:=am (Kd.R_below (kup HO_575001.out) hb)
               have n2_:=am (Kd.R_below (kup HO_582001.out) hb)
               have n3_:=am (blk_below (bup BK550.out) hb)
               have n4_:=am (blk_below (bup BK566.out) hb)
               have n5_:=am (blk_below (bup BK574.out) hb)
               have n6_:=am (blk_below (bup BK581.out) hb)
               have n7_:=am (below_step (lup HB.out) hb)
               have n8_:=am (hbox)
               have n9_:=am ((by rw [hg];exact (below_size (lup HB.out)) : w.heap.size ≤ gb613))
               have n10_:=am ((by rw [hg];exact (below_size (lup HB.out)) : w.heap.size ≤ gb613))
               have n11_:=am ((by rw [hg];exact Nat.ne_of_lt (blk_lt (bup BK550.out)) : gb550≠gb613))
               have n12_:=am ((by rw [hg];exact Nat.ne_of_gt (blk_lt (bup BK550.out)) : gb613≠gb550))
               have n13_:=am ((by rw [hg];exact Nat.ne_of_lt (blk_lt (bup BK566.out)) : gb566≠gb613))
               have n14_:=am ((by rw [hg];exact Nat.ne_of_gt (blk_lt (bup BK566.out)) : gb613≠gb566))
               have n15_:=am ((by rw [hg];exact Nat.ne_of_lt (blk_lt (bup BK574.out)) : gb574≠gb613))
               have n16_:=am ((by rw [hg];exact Nat.ne_of_gt (blk_lt (bup BK574.out)) : gb613≠gb574))
               have n17_:=am ((by rw [hg];exact Nat.ne_of_lt (blk_lt (bup BK581.out)) : gb581≠gb613))
               have n18_:=am ((by rw [hg];exact Nat.ne_of_gt (blk_lt (bup BK581.out)) : gb613≠gb581))
               clear HO_567001
               clear HO_575001
               clear HO_582001
               clear BK550
               clear BK566
               clear BK574
               clear BK581
               clear HB
               have HO_567001:=n0_
               have HO_575001:=n1_
               have HO_582001:=n2_
               have BK550:=n3_
               have BK566:=n4_
               have BK574:=n5_
               have BK581:=n6_
               have HB:=n7_
               have BK613:=n8_
               have GW613:=n9_
               have GE613:=n10_
               have NB550_613:=n11_
               have NB613_550:=n12_
               have NB566_613:=n13_
               have NB613_566:=n14_
               have NB574_613:=n15_
               have NB613_574:=n16_
               have NB581_613:=n17_
               have NB613_581:=n18_
               clear n0_ n1_ n2_ n3_ n4_ n5_ n6_ n7_ n8_ n9_ n10_ n11_ n12_ n13_ n14_ n15_ n16_ n17_ n18_
               clear hb hbox hg
               refine hK.out _ _ ⟨(blk_cell BK550.out 0).trans rfl,(blk_cell BK550.out 1).trans rfl⟩ (fun hHeld => ?_)
               clear hK K
               refine norm_ (a':=?_) ?_ ?_
               rotate_left
               ·show Act.put _ (some 19) _ = _
                simp only [Act.put,List.setIfInBounds_toArray,List.set_cons_zero,List.set_cons_succ,i64_w,i32_w]
                rfl
               refine one_ (i:=1) (N:=some 115) #[true,true,true,false,true,false,false,false,false,false,true,false,false,false] rfl rfl (one_of HT_.out (by kernel_rfl)) (by decide) (fun K hK => ?_)
               refine goes_ Tryd.func19 (by kernel_rfl) rfl #[.slice A0 l0.length c0] (by rfl) rfl rfl (by (try simp only [List.map_toArray,List.map_cons,List.map_nil]);first|done|rfl|(simp only [List.length_drop,List.length_take];rfl)) ?_
               with_reducible refine (laws_toStringS.calls kj85 _ _ l0 t600 _ ?side1 ?side2 A139.out).mono ?_
               (case side1 => repeat (first|exact (Kd.C_below HR0.out HB.out)|(with_reducible first|refine Kd.C_alloc ?_ _|refine Kd.C_drewN ?_ _|refine Kd.C_drew ?_)))
               (case side2 => exact HC0.out)
               rintro e w152 ⟨v601,rfl,ho0,hb⟩
               refine ⟨_,rfl,?_⟩
               have n0_:=am (Kd.R_below (kup HO_567001.out) hb)
               have n1_:=am (Kd.R_below (kup HO_575001.out) hb)
               have n2_:=am (Kd.R_below (kup HO_582001.out) hb)
               have n3_:=am (Kd.R_lower ho0 (below_size (lup HB.out)))
               have n4_:=am (blk_below (bup BK550.out) hb)
               have n5_:=am (blk_below (bup BK566.out) hb)
               have n6_:=am (blk_below (bup BK574.out) hb)
               have n7_:=am (blk_below (bup BK581.out) hb)
               have n8_:=am (blk_below (bup BK613.out) hb)
               have n9_:=am (below_step (lup HB.out) hb)
               clear HO_567001
               clear HO_575001
               clear HO_582001
               clear BK550
               clear BK566
               clear BK574
               clear BK581
               clear BK613
               clear HB
               have HO_567001:=n0_
               have HO_575001:=n1_
               have HO_582001:=n2_
               have HO602:=n3_
               have BK550:=n4_
               have BK566:=n5_
               have BK574:=n6_
               have BK581:=n7_
               have BK613:=n8_
               have HB:=n9_
               clear n0_ n1_ n2_ n3_ n4_ n5_ n6_ n7_ n8_ n9_
               (try clear hb)
               (try clear hb2)
               (try clear hk)
               (try clear hi)
               (try clear ho0)
               refine hK.out _ _ ⟨(blk_cell BK550.out 0).trans rfl,(blk_cell BK550.out 1).trans rfl⟩ (fun hHeld => ?_)
               clear hK K
               refine norm_ (a':=?_) ?_ ?_
               rotate_left
               ·show Act.put _ (some 115) _ = _
                simp only [Act.put,List.setIfInBounds_toArray,List.set_cons_zero,List.set_cons_succ,i64_w,i32_w]
                rfl
               refine one_ (i:=3) (N:=some 117) #[true,true,true,true,true,false,false,false,false,false,true,false,false,false] rfl rfl (one_of HT_.out (by kernel_rfl)) (by decide) (fun K hK => ?_)
               refine goes_ Tryd.func20 (by kernel_rfl) rfl #[.agg #[.int .i64 a1_0,.slice A1_1 l1_1.length c1_1]] (by rfl) rfl rfl (by (try simp only [List.map_toArray,List.map_cons,List.map_nil]);first|done|rfl|(simp only [List.length_drop,List.length_take];rfl)) ?_
               with_reducible refine (laws_toNursery.calls kj85 a1_0 _ _ l1_1 t603 t604 _ ?side1 ?side2 A140.out).mono ?_
               (case side1 => repeat (first|exact (Kd.C_below HR1_1.out HB.out)|(with_reducible first|refine Kd.C_alloc ?_ _|refine Kd.C_drewN ?_ _|refine Kd.C_drew ?_)))
               (case side2 => exact HC1_1.out)
               rintro e w153 ⟨v605,rfl,ho0,hb⟩
               refine ⟨_,rfl,?_⟩
               have n0_:=am (Kd.R_elder' (kup HO_567001.out) (Kd.R_base ho0) hb)
               have n1_:=am (Kd.R_elder' (kup HO_575001.out) (Kd.R_base ho0) hb)
               have n2_:=am (Kd.R_elder' (kup HO_582001.out) (Kd.R_base ho0) hb)
               have n3_:=am (Kd.R_below (kup HO602.out) hb)
               have n4_:=am (Kd.R_lower (Kd.R_new' (Kd.R_new' (Kd.R_new' ho0 (Kd.R_lt (kup HO_567001.out))) (Kd.R_lt (kup HO_575001.out))) (Kd.R_lt (kup HO_582001.out))) (below_size (lup HB.out)))
               have n5_:=am (blk_below (bup BK550.out) hb)
               have n6_:=am (blk_below (bup BK566.out) hb)
               have n7_:=am (blk_below (bup BK574.out) hb)
               have n8_:=am (blk_below (bup BK581.out) hb)
               have n9_:=am (blk_below (bup BK613.out) hb)
               have n10_:=am (below_step (lup HB.out) hb)
               clear HO_567001
               clear HO_575001
               clear HO_582001
               clear HO602
               clear BK550
               clear BK566
               clear BK574
               clear BK581
               clear BK613
               clear HB
               have HO_567001:=n0_
               have HO_575001:=n1_
               have HO_582001:=n2_
               have HO602:=n3_
               have HO606:=n4_
               have BK550:=n5_
               have BK566:=n6_
               have BK574:=n7_
               have BK581:=n8_
               have BK613:=n9_
               have HB:=n10_
               clear n0_ n1_ n2_ n3_ n4_ n5_ n6_ n7_ n8_ n9_ n10_
               (try clear hb)
               (try clear hb2)
               (try clear hk)
               (try clear hi)
               (try clear ho0)
               obtain ⟨Ao154,co154,eo154⟩:=Kd.R_slice HO602.out
               (first|subst eo154|(injection eo154 with f1_ f2_ f3_;have f4_:=f1_.symm;have f5_:=f3_.symm;clear f1_ f2_ f3_;subst f4_;subst f5_))
               obtain ⟨Ao155,co155,eo155⟩:=Kd.R_slice HO606.out
               (first|subst eo155|(injection eo155 with f1_ f2_ f3_;have f4_:=f1_.symm;have f5_:=f3_.symm;clear f1_ f2_ f3_;subst f4_;subst f5_))
               refine hK.out _ _ ⟨(blk_cell BK550.out 0).trans rfl,(blk_cell BK550.out 1).trans rfl⟩ (fun hHeld => ?_)
               clear hK K
               refine norm_ (a':=?_) ?_ ?_
               rotate_left
               ·show Act.put _ (some 117) _ = _
                simp only [Act.put,List.setIfInBounds_toArray,List.set_cons_zero,List.set_cons_succ,i64_w,i32_w]
                rfl
               refine one_ (i:=5) (N:=some 119) #[true,true,true,true,true,true,false,false,false,false,true,false,false,false] rfl rfl (one_of HT_.out (by kernel_rfl)) (by decide) (fun K hK => ?_)
               refine goes_ Tryd.func39 (by kernel_rfl) rfl #[.slice Ao154 t600.length co154,.agg #[.int .i64 t603,.slice Ao155 t604.length co155],.int .i64 a2] (by rfl) rfl rfl (by (try simp only [List.map_toArray,List.map_cons,List.map_nil]);first|done|rfl|(simp only [List.length_drop,List.length_take];rfl)) ?_
               with_reducible refine (impl_YoungAlloc.calls kj85 _ _ t600 t603 _ _ t604 a2 t607 t608 t611 t612 _ ?side1 ?side2 ?side3 ?side4 A141.out).mono ?_
               (case side1 => repeat (first|exact (Kd.R_reads' HO602.out).2.2|(with_reducible first|refine Kd.C_alloc ?_ _|refine Kd.C_drewN ?_ _|refine Kd.C_drew ?_)))
               (case side2 => exact (Kd.R_reads' HO602.out).2.1)
               (case side3 => repeat (first|exact (Kd.R_reads' HO606.out).2.2|(with_reducible first|refine Kd.C_alloc ?_ _|refine Kd.C_drewN ?_ _|refine Kd.C_drew ?_)))
               (case side4 => exact (Kd.R_reads' HO606.out).2.1)
               rintro e w156 ⟨v609,rfl,ho0,hb⟩
               refine ⟨_,rfl,?_⟩
               have n0_:=am (Kd.R_elder' (kup HO_567001.out) (Kd.R_base ho0) hb)
               have n1_:=am (Kd.R_elder' (kup HO_575001.out) (Kd.R_base ho0) hb)
               have n2_:=am (Kd.R_elder' (kup HO_582001.out) (Kd.R_base ho0) hb)
               have n3_:=am (Kd.R_below (kup HO602.out) hb)
               have n4_:=am (Kd.R_elder' (kup HO606.out) (Kd.R_base ho0) hb)
               have n5_:=am (Kd.R_lower (Kd.R_new' (Kd.R_new' (Kd.R_new' (Kd.R_new' ho0 (Kd.R_lt (kup HO_567001.out))) (Kd.R_lt (kup HO_575001.out))) (Kd.R_lt (kup HO_582001.out))) (Kd.R_lt (kup HO606.out))) (below_size (lup HB.out)))
               have n6_:=am (blk_below (bup BK550.out) hb)
               have n7_:=am (blk_below (bup BK566.out) hb)
               have n8_:=am (blk_below (bup BK574.out) hb)
               have n9_:=am (blk_below (bup BK581.out) hb)
               have n10_:=am (blk_below (bup BK613.out) hb)
               have n11_:=am (below_step (lup HB.out) hb)
               clear HO_567001
               clear HO_575001
               clear HO_582001
               clear HO602
               clear HO606
               clear BK550
               clear BK566
               clear BK574
               clear BK581
               clear BK613
               clear HB
               have HO_567001:=n0_
               have HO_575001:=n1_
               have HO_582001:=n2_
               have HO602:=n3_
               have HO606:=n4_
               have HO610:=n5_
               have BK550:=n6_
               have BK566:=n7_
               have BK574:=n8_
               have BK581:=n9_
               have BK613:=n10_
               have HB:=n11_
               clear n0_ n1_ n2_ n3_ n4_ n5_ n6_ n7_ n8_ n9_ n10_ n11_
               (try clear hb)
               (try clear hb2)
               (try clear hk)
               (try clear hi)
               (try clear ho0)
               refine hK.out _ _ ⟨(blk_cell BK550.out 0).trans rfl,(blk_cell BK550.out 1).trans rfl⟩ (fun hHeld => ?_)
               clear hK K
               refine norm_ (a':=?_) ?_ ?_
               rotate_left
               ·show Act.put _ (some 119) _ = _
                simp only [Act.put,List.setIfInBounds_toArray,List.set_cons_zero,List.set_cons_succ,i64_w,i32_w]
                rfl
               refine pure_ (i:=6) (N:=some 113) (v:=?_) (a':=?_) #[true,true,true,true,true,true,true,false,false,false,true,false,false,false] rfl rfl (any_of HT_.out (by kernel_rfl)) (fun _ _ _ h => h) (Or.inl ⟨by rfl,?_⟩) ?_ ?_
               rotate_left
               ·intro w'
                go_simp
                with_reducible rfl
               rotate_left
               ·simp only [Act.put,List.setIfInBounds_toArray,List.set_cons_zero,List.set_cons_succ,i64_w,i32_w]
                rfl
               refine pure_ (i:=7) (N:=some 120) (v:=?_) (a':=?_) #[true,true,true,true,true,true,true,true,false,false,true,false,false,false] rfl rfl (any_of HT_.out (by kernel_rfl)) (fun _ _ _ h => h) (Or.inl ⟨by rfl,?_⟩) ?_ ?_
               rotate_left
               ·intro w'
                go_simp
                with_reducible rfl
               rotate_left
               ·simp only [Act.put,List.setIfInBounds_toArray,List.set_cons_zero,List.set_cons_succ,i64_w,i32_w]
                rfl
               refine pure_ (i:=8) (N:=some 121) (v:=?_) (a':=?_) #[true,true,true,true,true,true,true,true,true,false,true,false,false,false] rfl rfl (any_of HT_.out (by kernel_rfl)) (fun _ _ _ h => h) (Or.inl ⟨by rfl,?_⟩) ?_ ?_
               rotate_left
               ·intro w'
                go_simp
                with_reducible rfl
               rotate_left
               ·simp only [Act.put,List.setIfInBounds_toArray,List.set_cons_zero,List.set_cons_succ,i64_w,i32_w]
                rfl
               refine pure_ (i:=9) (N:=some 122) (v:=?_) (a':=?_) #[true,true,true,true,true,true,true,true,true,true,true,false,false,false] rfl rfl (any_of HT_.out (by kernel_rfl)) (fun _ _ _ h => h) (Or.inl ⟨by rfl,?_⟩) ?_ ?_
               rotate_left
               ·intro w'
                go_simp
                with_reducible rfl
               rotate_left
               ·simp only [Act.put,List.setIfInBounds_toArray,List.set_cons_zero,List.set_cons_succ,i64_w,i32_w]
                rfl
               exact norm_ (by simp only [putAll,Act.put,List.setIfInBounds_toArray,List.set_cons_zero,List.set_cons_succ]) (hCont (.slice Ao154 t600.length co154,.slice Ao155 t604.length co155,v609,gb613) _ ⟨hHeld,(kup HO602.out),(kup (Kd.R_mono HO606.out (fun _ hk => ⟨hk.2,⟨hk.1.1.1.2,⟨hk.1.1.2,hk.1.2⟩⟩⟩))),(kup (Kd.R_mono HO610.out (fun _ hk => ⟨hk.2,⟨hk.1.1.1.2,⟨hk.1.1.2,hk.1.2⟩⟩⟩))),(kup (Kd.R_mono HO_567001.out (fun _ hk => ⟨hk.1.2,⟨hk.2,⟨hk.1.1.1,hk.1.1.2⟩⟩⟩))),(kup (Kd.R_mono HO_575001.out (fun _ hk => ⟨hk.1.2,⟨hk.2,⟨hk.1.1.1,hk.1.1.2⟩⟩⟩))),(kup (Kd.R_mono HO_582001.out (fun _ hk => ⟨hk.1.2,⟨hk.2,⟨hk.1.1.1,hk.1.1.2⟩⟩⟩))),(bup BK550.out),(bup BK566.out),(bup BK574.out),(bup BK581.out),(bup BK613.out),GW613.out,GE613.out,NB550_613.out,NB613_550.out,NB566_613.out,NB613_566.out,NB574_613.out,NB613_574.out,NB581_613.out,NB613_581.out,(lup HB.out)⟩)
             rintro ⟨v601,v605,v609,gb613⟩ w157 ⟨hS_,h0_,h1_,h2_,h3_,h4_,h5_,h6_,h7_,h8_,h9_,h10_,h11_,h12_,h13_,h14_,h15_,h16_,h17_,h18_,h19_,h20_,h21_⟩
             have n0_ : Aside0 (Kd.R Kd.string 9 w157 w.heap.size (fun _ => True) v601 t600):=⟨h0_⟩
             have n1_ : Aside0 (Kd.R (Kd.int .i64) 2 w157 w.heap.size (fun k_ => some k_≠(v609 : Value).ownBlock∧some k_≠(.slice Ao31 t561.length co31 : Value).ownBlock∧some k_≠(.slice Ao41 t595.length co41 : Value).ownBlock∧some k_≠(.slice Ao49 t576.length co49 : Value).ownBlock) v605 t604):=⟨h1_⟩
             have n2_ : Aside0 (Kd.R (Kd.int .i64) 2 w157 w.heap.size (fun k_ => some k_≠(v605 : Value).ownBlock∧some k_≠(.slice Ao31 t561.length co31 : Value).ownBlock∧some k_≠(.slice Ao41 t595.length co41 : Value).ownBlock∧some k_≠(.slice Ao49 t576.length co49 : Value).ownBlock) v609 t608):=⟨h2_⟩
             have n3_ : Aside0 (Kd.R (Kd.int .i64) 2 w157 w.heap.size (fun k_ => some k_≠(v605 : Value).ownBlock∧some k_≠(v609 : Value).ownBlock∧some k_≠(.slice Ao41 t595.length co41 : Value).ownBlock∧some k_≠(.slice Ao49 t576.length co49 : Value).ownBlock) (.slice Ao31 t561.length co31) t561):=⟨h3_⟩
             have n4_ : Aside0 (Kd.R (Kd.int .i64) 2 w157 w.heap.size (fun k_ => some k_≠(v605 : Value).ownBlock∧some k_≠(v609 : Value).ownBlock∧some k_≠(.slice Ao31 t561.length co31 : Value).ownBlock∧some k_≠(.slice Ao49 t576.length co49 : Value).ownBlock) (.slice Ao41 t595.length co41) t595):=⟨h4_⟩
             have n5_ : Aside0 (Kd.R (Kd.int .i64) 2 w157 w.heap.size (fun k_ => some k_≠(v605 : Value).ownBlock∧some k_≠(v609 : Value).ownBlock∧some k_≠(.slice Ao31 t561.length co31 : Value).ownBlock∧some k_≠(.slice Ao41 t595.length co41 : Value).ownBlock) (.slice Ao49 t576.length co49) t598):=⟨h5_⟩
             have n6_ : Aside0 (w157.heap[gb550]? = some (.cells #[.int .i64 a1_0,.slice A1_1 l1_1.length c1_1] 25 (0,0))):=⟨h6_⟩
             have n7_ : Aside0 (w157.heap[gb566]? = some (.cells #[.int .i64 t560,.slice Ao31 t561.length co31] 30 (0,0))):=⟨h7_⟩
             have n8_ : Aside0 (w157.heap[gb574]? = some (.cells #[.int .i64 t570,.slice Ao41 t595.length co41] 30 (0,0))):=⟨h8_⟩
             have n9_ : Aside0 (w157.heap[gb581]? = some (.cells #[.int .i64 t575,.slice Ao49 t576.length co49] 30 (0,0))):=⟨h9_⟩
             have n10_ : Aside0 (w157.heap[gb613]? = some (.cells #[.int .i64 0,.slice none 0 0] 30 (0,0))):=⟨h10_⟩
             have n11_ : Aside0 (w.heap.size ≤ gb613):=⟨h11_⟩
             have n12_ : Aside0 (w.heap.size ≤ gb613):=⟨h12_⟩
             have n13_ : Aside0 (gb550≠gb613):=⟨h13_⟩
             have n14_ : Aside0 (gb613≠gb550):=⟨h14_⟩
             have n15_ : Aside0 (gb566≠gb613):=⟨h15_⟩
             have n16_ : Aside0 (gb613≠gb566):=⟨h16_⟩
             have n17_ : Aside0 (gb574≠gb613):=⟨h17_⟩
             have n18_ : Aside0 (gb613≠gb574):=⟨h18_⟩
             have n19_ : Aside0 (gb581≠gb613):=⟨h19_⟩
             have n20_ : Aside0 (gb613≠gb581):=⟨h20_⟩
             have n21_ : Aside0 (Below w.heap.size w w157):=⟨h21_⟩
             clear HO_567001
             clear HO_575001
             clear HO_582001
             clear BK550
             clear BK566
             clear BK574
             clear BK581
             clear HB
             clear h0_ h1_ h2_ h3_ h4_ h5_ h6_ h7_ h8_ h9_ h10_ h11_ h12_ h13_ h14_ h15_ h16_ h17_ h18_ h19_ h20_ h21_
             have HO602:=n0_
             have HO606:=n1_
             have HO610:=n2_
             have HO_567001:=n3_
             have HO_575001:=n4_
             have HO_582001:=n5_
             have BK550:=n6_
             have BK566:=n7_
             have BK574:=n8_
             have BK581:=n9_
             have BK613:=n10_
             have GW613:=n11_
             have GE613:=n12_
             have NB550_613:=n13_
             have NB613_550:=n14_
             have NB566_613:=n15_
             have NB613_566:=n16_
             have NB574_613:=n17_
             have NB613_574:=n18_
             have NB581_613:=n19_
             have NB613_581:=n20_
             have HB:=n21_
             clear n0_ n1_ n2_ n3_ n4_ n5_ n6_ n7_ n8_ n9_ n10_ n11_ n12_ n13_ n14_ n15_ n16_ n17_ n18_ n19_ n20_ n21_
             have hHeld : w157.cell? ⟨gb550,0,none⟩ = some (.int .i64 a1_0)∧w157.cell? ⟨gb550,1,none⟩ = some (.slice A1_1 l1_1.length c1_1):=hS_
             obtain ⟨Ao159,co159,eo159⟩:=Kd.R_slice HO610.out
             (first|subst eo159|(injection eo159 with f1_ f2_ f3_;have f4_:=f1_.symm;have f5_:=f3_.symm;clear f1_ f2_ f3_;subst f4_;subst f5_))
             refine norm_ (a':=?_) ?_ ?_
             rotate_left
             ·simp only [putAll,Act.put,List.setIfInBounds_toArray,List.set_cons_zero,List.set_cons_succ]
              rfl
             refine one_ (i:=11) (N:=none) #[true,true,true,true,true,true,true,true,true,true,true,true,false,false] rfl rfl (one_of HT_.out (by kernel_rfl)) (by decide) (fun K hK => ?_)
             have hs158 : w157.cell? ⟨gb613,0,none⟩ = some (.int .i64 0):=(blk_cell BK613.out 0).trans rfl
             have hfs158:=blk_frozen BK613.out 0
             have hns158_0:=NB550_613.out
             have hns158_1:=NB566_613.out
             have hns158_2:=NB574_613.out
             have hns158_3:=NB581_613.out
             have hms158_0:=NB613_550.out
             have hms158_1:=NB613_566.out
             have hms158_2:=NB613_574.out
             have hms158_3:=NB613_581.out
             have hs160 : w157.cell? ⟨gb613,1,none⟩ = some (.slice none 0 0):=(blk_cell BK613.out 1).trans rfl
             have hfs160:=blk_frozen BK613.out 1
             have hns160_0:=NB550_613.out
             have hns160_1:=NB566_613.out
             have hns160_2:=NB574_613.out
             have hns160_3:=NB581_613.out
             have hms160_0:=NB613_550.out
             have hms160_1:=NB613_566.out
             have hms160_2:=NB613_574.out
             have hms160_3:=NB613_581.out
             refine skip_ (w1:=?_) (by rfl) rfl ?_ ?_
             rotate_left
             ·go_simp
              rfl
             refine hK.out _ _ ⟨((cell_far (p:=⟨gb613,_,none⟩) NB550_613.out _).trans (((cell_far (p:=⟨gb613,_,none⟩) NB550_613.out _).trans (hHeld.1)))),((cell_far (p:=⟨gb613,_,none⟩) NB550_613.out _).trans (((cell_far (p:=⟨gb613,_,none⟩) NB550_613.out _).trans (hHeld.2))))⟩ (fun hHeld => ?_)
             clear hK K
             refine pure_ (i:=12) (N:=some 20) (v:=?_) (a':=?_) #[true,true,true,true,true,true,true,true,true,true,true,true,true,false] rfl rfl (any_of HT_.out (by kernel_rfl)) (fun _ _ _ h => h) (Or.inl ⟨by rfl,?_⟩) ?_ ?_
             rotate_left
             ·intro w'
              go_simp
              with_reducible rfl
             rotate_left
             ·simp only [Act.put,List.setIfInBounds_toArray,List.set_cons_zero,List.set_cons_succ,i64_w,i32_w]
              rfl
             refine pure_ (i:=13) (N:=some 21) (v:=?_) (a':=?_) #[true,true,true,true,true,true,true,true,true,true,true,true,true,true] rfl rfl (any_of HT_.out (by kernel_rfl)) (fun _ _ _ h => h) (Or.inl ⟨by rfl,?_⟩) ?_ ?_
             rotate_left
             ·intro w'
              go_simp
              with_reducible rfl
             rotate_left
             ·simp only [Act.put,List.setIfInBounds_toArray,List.set_cons_zero,List.set_cons_succ,i64_w,i32_w]
              rfl
             refine done_ (done_of HT_.out (by kernel_rfl)) ?_
             go_upto_region 32 with (fail)
             go_cut [136] (fun v136 wc => ∃ (kq : Nat) (x136_141 : Bool),v136 = .bool x136_141∧Aside0 (laws_FnExactYoungAlloc.j2 kq t597 x136_141 t575 t598 = some r)∧Aside0 (kq ≤ kj85)∧Aside0 (Kd.R (Kd.int .i64) 2 wc w.heap.size (fun k_ => some k_≠((.slice Ao41 t595.length co41) : Value).ownBlock∧some k_≠((.slice Ao49 t576.length co49) : Value).ownBlock∧some k_≠((.slice Ao159 t608.length co159) : Value).ownBlock) (.slice Ao31 t561.length co31) t561)∧Aside0 (Kd.R (Kd.int .i64) 2 wc w.heap.size (fun k_ => some k_≠((.slice Ao31 t561.length co31) : Value).ownBlock∧some k_≠((.slice Ao49 t576.length co49) : Value).ownBlock∧some k_≠((.slice Ao159 t608.length co159) : Value).ownBlock) (.slice Ao41 t595.length co41) t595)∧Aside0 (Kd.R (Kd.int .i64) 2 wc w.heap.size (fun k_ => some k_≠((.slice Ao31 t561.length co31) : Value).ownBlock∧some k_≠((.slice Ao41 t595.length co41) : Value).ownBlock∧some k_≠((.slice Ao159 t608.length co159) : Value).ownBlock) (.slice Ao49 t576.length co49) t598)∧Aside0 (Kd.R (Kd.int .i64) 2 wc w.heap.size (fun k_ => some k_≠((.slice Ao31 t561.length co31) : Value).ownBlock∧some k_≠((.slice Ao41 t595.length co41) : Value).ownBlock∧some k_≠((.slice Ao49 t576.length co49) : Value).ownBlock) (.slice Ao159 t608.length co159) t608)∧Aside0 (wc.heap[gb550]? = some (.cells #[.int .i64 a1_0,(.slice A1_1 l1_1.length c1_1)] 25 (0,0)))∧Aside0 (wc.heap[gb566]? = some (.cells #[.int .i64 t560,(.slice Ao31 t561.length co31)] 30 (0,0)))∧Aside0 (wc.heap[gb574]? = some (.cells #[.int .i64 t570,(.slice Ao41 t595.length co41)] 30 (0,0)))∧Aside0 (wc.heap[gb581]? = some (.cells #[.int .i64 t575,(.slice Ao49 t576.length co49)] 30 (0,0)))∧Aside0 (wc.heap[gb613]? = some (.cells #[.int .i64 t607,(.slice Ao159 t608.length co159)] 30 (0,0)))∧Aside0 (Below w.heap.size w wc))
             case first =>
              have H:=HC142.out
              clear HC142
              replace H:=Option.bind_eq_some_iff.mp H
              obtain ⟨t614,A1610,H⟩:=H
              try dsimp only at H
              have A161:=am A1610
              clear A1610
              by_cases c162 : t614 = true
              ·subst c162
               have H1:=H;rw [if_pos rfl] at H1
               clear H
               have H:=H1
               clear H1
               by_cases c163 : t611 = t564
               ·rw [if_pos c163] at H
                have c163b0 : (t611 == t564) = true:=beq_iff_eq.mpr c163
                have c163b1 : (t611 != t564) = false:=bne_eq_false_iff_eq.mpr c163
                clear c163
                (first|rw [c163b0]|(simp only [i64_w,i32_w];rw [c163b0])|skip)
                have H':=am H
                clear H
                have hnb164:=NB613_550.out
                have hnc164:=NB550_613.out
                have hnb165:=NB613_566.out
                have hnc165:=NB566_613.out
                have hnb166:=NB613_574.out
                have hnc166:=NB574_613.out
                have hnb167:=NB613_581.out
                have hnc167:=NB581_613.out
                have hcz168_0 : w157.cell? ⟨gb613,0,none⟩ = some (.int .i64 0):=(blk_cell BK613.out 0).trans rfl
                have hcz168_1 : w157.cell? ⟨gb613,1,none⟩ = some (.slice none 0 0):=(blk_cell BK613.out 1).trans rfl
                have hfz168_0:=blk_frozen BK613.out 0
                have hfz168_1:=blk_frozen BK613.out 1
                have hnb169:=NB566_550.out
                have hnc169:=NB550_566.out
                have hnb170:=NB566_574.out
                have hnc170:=NB574_566.out
                have hnb171:=NB566_581.out
                have hnc171:=NB581_566.out
                have hcz172_0 : w157.cell? ⟨gb566,0,none⟩ = some (.int .i64 t560):=(blk_cell BK566.out 0).trans rfl
                have hcz172_1 : w157.cell? ⟨gb566,1,none⟩ = some (.slice Ao31 t561.length co31):=(blk_cell BK566.out 1).trans rfl
                have hfz172_0:=blk_frozen BK566.out 0
                have hfz172_1:=blk_frozen BK566.out 1
                go_wp2_with (first|((with_reducible refine gate_callee (f:=23) rfl ?_);refine goesL_ (some 125) rfl rfl Tryd.func23 (by kernel_rfl) rfl #[.agg #[.int .i64 t607,.slice Ao159 t608.length co159],.agg #[.int .i64 t560,.slice Ao31 t561.length co31]] rfl (by (try simp only [List.map_toArray,List.map_cons,List.map_nil]);first|done|rfl|(simp only [List.length_drop,List.length_take];rfl)) ?_;(with_reducible refine (laws_eqNursery.calls kj85 t607 _ _ t608 t560 _ _ t561 true _ ?side1 ?side2 ?side3 ?side4 A161.out).mono ?_);(case side1 => refine (Kd.R_reads' (e:=2) (base:=w.heap.size) (ok:=fun k_ => (some k_≠(v605 : Value).ownBlock∧(some k_≠(.slice Ao31 t561.length co31 : Value).ownBlock∧(some k_≠(.slice Ao41 t595.length co41 : Value).ownBlock∧some k_≠(.slice Ao49 t576.length co49 : Value).ownBlock)))) (n:=t608.length) (c:=co159) ?_).2.2;exact (by (with_reducible repeat (first|apply Kd.R_alloc|apply Kd.R_drewN|apply Kd.R_drew));exact (Kd.R_mono (Kd.R_far (p:=⟨gb613,1,none⟩) (Kd.R_far (p:=⟨gb613,0,none⟩) (Kd.R_types HO610.out BK613.out (by decide)) (fun _ hk => hk.2) (.int .i64 t607)) (fun _ hk => hk.2) (.slice Ao159 t608.length co159)) (fun _ h_ => h_.1))));(case side2 => exact (Kd.R_reads' HO610.out).2.1);(case side3 => refine (Kd.R_reads' (e:=2) (base:=w.heap.size) (ok:=fun k_ => (some k_≠(v605 : Value).ownBlock∧(some k_≠(.slice Ao159 t608.length co159 : Value).ownBlock∧(some k_≠(.slice Ao41 t595.length co41 : Value).ownBlock∧some k_≠(.slice Ao49 t576.length co49 : Value).ownBlock)))) (n:=t561.length) (c:=co31) ?_).2.2;exact (by (with_reducible repeat (first|apply Kd.R_alloc|apply Kd.R_drewN|apply Kd.R_drew));exact (Kd.R_mono (Kd.R_far (p:=⟨gb613,1,none⟩) (Kd.R_far (p:=⟨gb613,0,none⟩) (Kd.R_types HO_567001.out BK613.out (by decide)) (fun _ hk => hk.2) (.int .i64 t607)) (fun _ hk => hk.2) (.slice Ao159 t608.length co159)) (fun _ h_ => h_.1))));(case side4 => exact (Kd.R_reads' HO_567001.out).2.1);rintro e w173 ⟨rfl,hb⟩;refine ⟨_,rfl,?_⟩;have n0_:=am (Kd.R_below (by (with_reducible repeat (first|apply Kd.R_alloc|apply Kd.R_drewN|apply Kd.R_drew));exact (Kd.R_mono (Kd.R_far (p:=⟨gb613,1,none⟩) (Kd.R_far (p:=⟨gb613,0,none⟩) (Kd.R_types HO_567001.out BK613.out (by decide)) (fun _ hk => hk.2) (.int .i64 t607)) (fun _ hk => hk.2) (.slice Ao159 t608.length co159)) (fun _ h_ => h_.1))) hb);have n1_:=am (Kd.R_below (by (with_reducible repeat (first|apply Kd.R_alloc|apply Kd.R_drewN|apply Kd.R_drew));exact (Kd.R_mono (Kd.R_far (p:=⟨gb613,1,none⟩) (Kd.R_far (p:=⟨gb613,0,none⟩) (Kd.R_types HO_575001.out BK613.out (by decide)) (fun _ hk => hk.2) (.int .i64 t607)) (fun _ hk => hk.2) (.slice Ao159 t608.length co159)) (fun _ h_ => h_.1))) hb);have n2_:=am (Kd.R_below (by (with_reducible repeat (first|apply Kd.R_alloc|apply Kd.R_drewN|apply Kd.R_drew));exact (Kd.R_mono (Kd.R_far (p:=⟨gb613,1,none⟩) (Kd.R_far (p:=⟨gb613,0,none⟩) (Kd.R_types HO_582001.out BK613.out (by decide)) (fun _ hk => hk.2) (.int .i64 t607)) (fun _ hk => hk.2) (.slice Ao159 t608.length co159)) (fun _ h_ => h_.1))) hb);have n3_:=am (Kd.R_below (by (with_reducible repeat (first|apply Kd.R_alloc|apply Kd.R_drewN|apply Kd.R_drew));exact (Kd.R_mono (Kd.R_far (p:=⟨gb613,1,none⟩) (Kd.R_far (p:=⟨gb613,0,none⟩) (Kd.R_types HO602.out BK613.out (by decide)) (fun _ hk => hk.2) (.int .i64 t607)) (fun _ hk => hk.2) (.slice Ao159 t608.length co159)) (fun _ h_ => h_.1))) hb);have n4_:=am (Kd.R_below (by (with_reducible repeat (first|apply Kd.R_alloc|apply Kd.R_drewN|apply Kd.R_drew));exact (Kd.R_mono (Kd.R_far (p:=⟨gb613,1,none⟩) (Kd.R_far (p:=⟨gb613,0,none⟩) (Kd.R_types HO606.out BK613.out (by decide)) (fun _ hk => hk.2) (.int .i64 t607)) (fun _ hk => hk.2) (.slice Ao159 t608.length co159)) (fun _ h_ => h_.1))) hb);have n5_:=am (Kd.R_below (by (with_reducible repeat (first|apply Kd.R_alloc|apply Kd.R_drewN|apply Kd.R_drew));exact (Kd.R_mono (Kd.R_far (p:=⟨gb613,1,none⟩) (Kd.R_far (p:=⟨gb613,0,none⟩) (Kd.R_types HO610.out BK613.out (by decide)) (fun _ hk => hk.2) (.int .i64 t607)) (fun _ hk => hk.2) (.slice Ao159 t608.length co159)) (fun _ h_ => h_.1))) hb);have n6_:=am (blk_below (g:=gb550) (o:=.cells #[.int .i64 a1_0,.slice A1_1 l1_1.length c1_1] 25 (0,0)) (by (with_reducible repeat (first|refine blk_drewN ?_ _|refine blk_drew ?_|refine blk_alloc ?_ _));refine blk_far ?_ NB550_613.out _;(with_reducible repeat (first|refine blk_drewN ?_ _|refine blk_drew ?_|refine blk_alloc ?_ _));refine blk_far ?_ NB550_613.out _;(with_reducible repeat (first|refine blk_drewN ?_ _|refine blk_drew ?_|refine blk_alloc ?_ _));exact BK550.out) hb);have n7_:=am (blk_below (g:=gb566) (o:=.cells #[.int .i64 t560,.slice Ao31 t561.length co31] 30 (0,0)) (by (with_reducible repeat (first|refine blk_drewN ?_ _|refine blk_drew ?_|refine blk_alloc ?_ _));refine blk_far ?_ NB566_613.out _;(with_reducible repeat (first|refine blk_drewN ?_ _|refine blk_drew ?_|refine blk_alloc ?_ _));refine blk_far ?_ NB566_613.out _;(with_reducible repeat (first|refine blk_drewN ?_ _|refine blk_drew ?_|refine blk_alloc ?_ _));exact BK566.out) hb);have n8_:=am (blk_below (g:=gb574) (o:=.cells #[.int .i64 t570,.slice Ao41 t595.length co41] 30 (0,0)) (by (with_reducible repeat (first|refine blk_drewN ?_ _|refine blk_drew ?_|refine blk_alloc ?_ _));refine blk_far ?_ NB574_613.out _;(with_reducible repeat (first|refine blk_drewN ?_ _|refine blk_drew ?_|refine blk_alloc ?_ _));refine blk_far ?_ NB574_613.out _;(with_reducible repeat (first|refine blk_drewN ?_ _|refine blk_drew ?_|refine blk_alloc ?_ _));exact BK574.out) hb);have n9_:=am (blk_below (g:=gb581) (o:=.cells #[.int .i64 t575,.slice Ao49 t576.length co49] 30 (0,0)) (by (with_reducible repeat (first|refine blk_drewN ?_ _|refine blk_drew ?_|refine blk_alloc ?_ _));refine blk_far ?_ NB581_613.out _;(with_reducible repeat (first|refine blk_drewN ?_ _|refine blk_drew ?_|refine blk_alloc ?_ _));refine blk_far ?_ NB581_613.out _;(with_reducible repeat (first|refine blk_drewN ?_ _|refine blk_drew ?_|refine blk_alloc ?_ _));exact BK581.out) hb);have n10_:=am (blk_below (g:=gb613) (o:=.cells #[.int .i64 t607,.slice Ao159 t608.length co159] 30 (0,0)) (by (with_reducible repeat (first|refine blk_drewN ?_ _|refine blk_drew ?_|refine blk_alloc ?_ _));refine blk_put (cs:=#[.int .i64 t607,.slice none 0 0]) ?_ 1 _ rfl;(with_reducible repeat (first|refine blk_drewN ?_ _|refine blk_drew ?_|refine blk_alloc ?_ _));refine blk_put (cs:=#[.int .i64 0,.slice none 0 0]) ?_ 0 _ rfl;(with_reducible repeat (first|refine blk_drewN ?_ _|refine blk_drew ?_|refine blk_alloc ?_ _));exact BK613.out) hb);have n11_:=am (below_step (by repeat (first|(with_reducible first|exact HB.out|apply below_alloc|apply pw_below_drewN|apply below_drew1|refine below_set ?_ GE550.out|refine below_set ?_ GE566.out|refine below_set ?_ GE574.out|refine below_set ?_ GE581.out|refine below_set ?_ GE613.out)|exact HB.out)) hb);clear HO_567001 HO_575001 HO_582001 HO602 HO606 HO610 BK550 BK566 BK574 BK581 BK613 HB;have HO_567001:=n0_;have HO_575001:=n1_;have HO_582001:=n2_;have HO602:=n3_;have HO606:=n4_;have HO610:=n5_;have BK550:=n6_;have BK566:=n7_;have BK574:=n8_;have BK581:=n9_;have BK613:=n10_;have HB:=n11_;clear n0_ n1_ n2_ n3_ n4_ n5_ n6_ n7_ n8_ n9_ n10_ n11_;(try clear hb);(try clear hb2);(try clear hk);(try clear hi)))
                go_meet
                case rel => exact ⟨_,((t612 != t565)),(by first|rfl|(simp;done)|(simp [*];done)),H',⟨by have:=HJ17.out;have:=HJ85.out;first|omega|exact Nat.le_refl _⟩,⟨by (try simp only [hl575001_85]);(with_reducible repeat (first|apply Kd.R_alloc|apply Kd.R_drewN|apply Kd.R_drew));exact Kd.R_mono HO_567001.out (fun _ hk => ⟨hk.2.2.1,⟨hk.2.2.2,hk.2.1⟩⟩)⟩,⟨by (try simp only [hl575001_85]);(with_reducible repeat (first|apply Kd.R_alloc|apply Kd.R_drewN|apply Kd.R_drew));exact Kd.R_mono HO_575001.out (fun _ hk => ⟨hk.2.2.1,⟨hk.2.2.2,hk.2.1⟩⟩)⟩,⟨by (try simp only [hl575001_85]);(with_reducible repeat (first|apply Kd.R_alloc|apply Kd.R_drewN|apply Kd.R_drew));exact Kd.R_mono HO_582001.out (fun _ hk => ⟨hk.2.2.1,⟨hk.2.2.2,hk.2.1⟩⟩)⟩,⟨by (try simp only [hl575001_85]);(with_reducible repeat (first|apply Kd.R_alloc|apply Kd.R_drewN|apply Kd.R_drew));exact Kd.R_mono HO610.out (fun _ hk => ⟨hk.2.1,⟨hk.2.2.1,hk.2.2.2⟩⟩)⟩,⟨by (try simp only [hl575001_85]);(with_reducible repeat (first|refine blk_drewN ?_ _|refine blk_drew ?_|refine blk_alloc ?_ _));exact BK550.out⟩,⟨by (try simp only [hl575001_85]);(with_reducible repeat (first|refine blk_drewN ?_ _|refine blk_drew ?_|refine blk_alloc ?_ _));exact BK566.out⟩,⟨by (try simp only [hl575001_85]);(with_reducible repeat (first|refine blk_drewN ?_ _|refine blk_drew ?_|refine blk_alloc ?_ _));exact BK574.out⟩,⟨by (try simp only [hl575001_85]);(with_reducible repeat (first|refine blk_drewN ?_ _|refine blk_drew ?_|refine blk_alloc ?_ _));exact BK581.out⟩,⟨by (try simp only [hl575001_85]);(with_reducible repeat (first|refine blk_drewN ?_ _|refine blk_drew ?_|refine blk_alloc ?_ _));exact BK613.out⟩,⟨lup HB.out⟩⟩
               ·rw [if_neg c163] at H
                have c163b0 : (t611 == t564) = false:=beq_eq_false_iff_ne.mpr c163
                have c163b1 : (t611 != t564) = true:=bne_iff_ne.mpr c163
                (first|rw [c163b0]|(simp only [i64_w,i32_w];rw [c163b0])|skip)
                have H':=am H
                clear H
                have hnb174:=NB613_550.out
                have hnc174:=NB550_613.out
                have hnb175:=NB613_566.out
                have hnc175:=NB566_613.out
                have hnb176:=NB613_574.out
                have hnc176:=NB574_613.out
                have hnb177:=NB613_581.out
                have hnc177:=NB581_613.out
                have hcz178_0 : w157.cell? ⟨gb613,0,none⟩ = some (.int .i64 0):=(blk_cell BK613.out 0).trans rfl
                have hcz178_1 : w157.cell? ⟨gb613,1,none⟩ = some (.slice none 0 0):=(blk_cell BK613.out 1).trans rfl
                have hfz178_0:=blk_frozen BK613.out 0
                have hfz178_1:=blk_frozen BK613.out 1
                have hnb179:=NB566_550.out
                have hnc179:=NB550_566.out
                have hnb180:=NB566_574.out
                have hnc180:=NB574_566.out
                have hnb181:=NB566_581.out
                have hnc181:=NB581_566.out
                have hcz182_0 : w157.cell? ⟨gb566,0,none⟩ = some (.int .i64 t560):=(blk_cell BK566.out 0).trans rfl
                have hcz182_1 : w157.cell? ⟨gb566,1,none⟩ = some (.slice Ao31 t561.length co31):=(blk_cell BK566.out 1).trans rfl
                have hfz182_0:=blk_frozen BK566.out 0
                have hfz182_1:=blk_frozen BK566.out 1
                go_wp2_with (first|((with_reducible refine gate_callee (f:=23) rfl ?_);refine goesL_ (some 125) rfl rfl Tryd.func23 (by kernel_rfl) rfl #[.agg #[.int .i64 t607,.slice Ao159 t608.length co159],.agg #[.int .i64 t560,.slice Ao31 t561.length co31]] rfl (by (try simp only [List.map_toArray,List.map_cons,List.map_nil]);first|done|rfl|(simp only [List.length_drop,List.length_take];rfl)) ?_;(with_reducible refine (laws_eqNursery.calls kj85 t607 _ _ t608 t560 _ _ t561 true _ ?side1 ?side2 ?side3 ?side4 A161.out).mono ?_);(case side1 => refine (Kd.R_reads' (e:=2) (base:=w.heap.size) (ok:=fun k_ => (some k_≠(v605 : Value).ownBlock∧(some k_≠(.slice Ao31 t561.length co31 : Value).ownBlock∧(some k_≠(.slice Ao41 t595.length co41 : Value).ownBlock∧some k_≠(.slice Ao49 t576.length co49 : Value).ownBlock)))) (n:=t608.length) (c:=co159) ?_).2.2;exact (by (with_reducible repeat (first|apply Kd.R_alloc|apply Kd.R_drewN|apply Kd.R_drew));exact (Kd.R_mono (Kd.R_far (p:=⟨gb613,1,none⟩) (Kd.R_far (p:=⟨gb613,0,none⟩) (Kd.R_types HO610.out BK613.out (by decide)) (fun _ hk => hk.2) (.int .i64 t607)) (fun _ hk => hk.2) (.slice Ao159 t608.length co159)) (fun _ h_ => h_.1))));(case side2 => exact (Kd.R_reads' HO610.out).2.1);(case side3 => refine (Kd.R_reads' (e:=2) (base:=w.heap.size) (ok:=fun k_ => (some k_≠(v605 : Value).ownBlock∧(some k_≠(.slice Ao159 t608.length co159 : Value).ownBlock∧(some k_≠(.slice Ao41 t595.length co41 : Value).ownBlock∧some k_≠(.slice Ao49 t576.length co49 : Value).ownBlock)))) (n:=t561.length) (c:=co31) ?_).2.2;exact (by (with_reducible repeat (first|apply Kd.R_alloc|apply Kd.R_drewN|apply Kd.R_drew));exact (Kd.R_mono (Kd.R_far (p:=⟨gb613,1,none⟩) (Kd.R_far (p:=⟨gb613,0,none⟩) (Kd.R_types HO_567001.out BK613.out (by decide)) (fun _ hk => hk.2) (.int .i64 t607)) (fun _ hk => hk.2) (.slice Ao159 t608.length co159)) (fun _ h_ => h_.1))));(case side4 => exact (Kd.R_reads' HO_567001.out).2.1);rintro e w183 ⟨rfl,hb⟩;refine ⟨_,rfl,?_⟩;have n0_:=am (Kd.R_below (by (with_reducible repeat (first|apply Kd.R_alloc|apply Kd.R_drewN|apply Kd.R_drew));exact (Kd.R_mono (Kd.R_far (p:=⟨gb613,1,none⟩) (Kd.R_far (p:=⟨gb613,0,none⟩) (Kd.R_types HO_567001.out BK613.out (by decide)) (fun _ hk => hk.2) (.int .i64 t607)) (fun _ hk => hk.2) (.slice Ao159 t608.length co159)) (fun _ h_ => h_.1))) hb);have n1_:=am (Kd.R_below (by (with_reducible repeat (first|apply Kd.R_alloc|apply Kd.R_drewN|apply Kd.R_drew));exact (Kd.R_mono (Kd.R_far (p:=⟨gb613,1,none⟩) (Kd.R_far (p:=⟨gb613,0,none⟩) (Kd.R_types HO_575001.out BK613.out (by decide)) (fun _ hk => hk.2) (.int .i64 t607)) (fun _ hk => hk.2) (.slice Ao159 t608.length co159)) (fun _ h_ => h_.1))) hb);have n2_:=am (Kd.R_below (by (with_reducible repeat (first|apply Kd.R_alloc|apply Kd.R_drewN|apply Kd.R_drew));exact (Kd.R_mono (Kd.R_far (p:=⟨gb613,1,none⟩) (Kd.R_far (p:=⟨gb613,0,none⟩) (Kd.R_types HO_582001.out BK613.out (by decide)) (fun _ hk => hk.2) (.int .i64 t607)) (fun _ hk => hk.2) (.slice Ao159 t608.length co159)) (fun _ h_ => h_.1))) hb);have n3_:=am (Kd.R_below (by (with_reducible repeat (first|apply Kd.R_alloc|apply Kd.R_drewN|apply Kd.R_drew));exact (Kd.R_mono (Kd.R_far (p:=⟨gb613,1,none⟩) (Kd.R_far (p:=⟨gb613,0,none⟩) (Kd.R_types HO602.out BK613.out (by decide)) (fun _ hk => hk.2) (.int .i64 t607)) (fun _ hk => hk.2) (.slice Ao159 t608.length co159)) (fun _ h_ => h_.1))) hb);have n4_:=am (Kd.R_below (by (with_reducible repeat (first|apply Kd.R_alloc|apply Kd.R_drewN|apply Kd.R_drew));exact (Kd.R_mono (Kd.R_far (p:=⟨gb613,1,none⟩) (Kd.R_far (p:=⟨gb613,0,none⟩) (Kd.R_types HO606.out BK613.out (by decide)) (fun _ hk => hk.2) (.int .i64 t607)) (fun _ hk => hk.2) (.slice Ao159 t608.length co159)) (fun _ h_ => h_.1))) hb);have n5_:=am (Kd.R_below (by (with_reducible repeat (first|apply Kd.R_alloc|apply Kd.R_drewN|apply Kd.R_drew));exact (Kd.R_mono (Kd.R_far (p:=⟨gb613,1,none⟩) (Kd.R_far (p:=⟨gb613,0,none⟩) (Kd.R_types HO610.out BK613.out (by decide)) (fun _ hk => hk.2) (.int .i64 t607)) (fun _ hk => hk.2) (.slice Ao159 t608.length co159)) (fun _ h_ => h_.1))) hb);have n6_:=am (blk_below (g:=gb550) (o:=.cells #[.int .i64 a1_0,.slice A1_1 l1_1.length c1_1] 25 (0,0)) (by (with_reducible repeat (first|refine blk_drewN ?_ _|refine blk_drew ?_|refine blk_alloc ?_ _));refine blk_far ?_ NB550_613.out _;(with_reducible repeat (first|refine blk_drewN ?_ _|refine blk_drew ?_|refine blk_alloc ?_ _));refine blk_far ?_ NB550_613.out _;(with_reducible repeat (first|refine blk_drewN ?_ _|refine blk_drew ?_|refine blk_alloc ?_ _));exact BK550.out) hb);have n7_:=am (blk_below (g:=gb566) (o:=.cells #[.int .i64 t560,.slice Ao31 t561.length co31] 30 (0,0)) (by (with_reducible repeat (first|refine blk_drewN ?_ _|refine blk_drew ?_|refine blk_alloc ?_ _));refine blk_far ?_ NB566_613.out _;(with_reducible repeat (first|refine blk_drewN ?_ _|refine blk_drew ?_|refine blk_alloc ?_ _));refine blk_far ?_ NB566_613.out _;(with_reducible repeat (first|refine blk_drewN ?_ _|refine blk_drew ?_|refine blk_alloc ?_ _));exact BK566.out) hb);have n8_:=am (blk_below (g:=gb574) (o:=.cells #[.int .i64 t570,.slice Ao41 t595.length co41] 30 (0,0)) (by (with_reducible repeat (first|refine blk_drewN ?_ _|refine blk_drew ?_|refine blk_alloc ?_ _));refine blk_far ?_ NB574_613.out _;(with_reducible repeat (first|refine blk_drewN ?_ _|refine blk_drew ?_|refine blk_alloc ?_ _));refine blk_far ?_ NB574_613.out _;(with_reducible repeat (first|refine blk_drewN ?_ _|refine blk_drew ?_|refine blk_alloc ?_ _));exact BK574.out) hb);have n9_:=am (blk_below (g:=gb581) (o:=.cells #[.int .i64 t575,.slice Ao49 t576.length co49] 30 (0,0)) (by (with_reducible repeat (first|refine blk_drewN ?_ _|refine blk_drew ?_|refine blk_alloc ?_ _));refine blk_far ?_ NB581_613.out _;(with_reducible repeat (first|refine blk_drewN ?_ _|refine blk_drew ?_|refine blk_alloc ?_ _));refine blk_far ?_ NB581_613.out _;(with_reducible repeat (first|refine blk_drewN ?_ _|refine blk_drew ?_|refine blk_alloc ?_ _));exact BK581.out) hb);have n10_:=am (blk_below (g:=gb613) (o:=.cells #[.int .i64 t607,.slice Ao159 t608.length co159] 30 (0,0)) (by (with_reducible repeat (first|refine blk_drewN ?_ _|refine blk_drew ?_|refine blk_alloc ?_ _));refine blk_put (cs:=#[.int .i64 t607,.slice none 0 0]) ?_ 1 _ rfl;(with_reducible repeat (first|refine blk_drewN ?_ _|refine blk_drew ?_|refine blk_alloc ?_ _));refine blk_put (cs:=#[.int .i64 0,.slice none 0 0]) ?_ 0 _ rfl;(with_reducible repeat (first|refine blk_drewN ?_ _|refine blk_drew ?_|refine blk_alloc ?_ _));exact BK613.out) hb);have n11_:=am (below_step (by repeat (first|(with_reducible first|exact HB.out|apply below_alloc|apply pw_below_drewN|apply below_drew1|refine below_set ?_ GE550.out|refine below_set ?_ GE566.out|refine below_set ?_ GE574.out|refine below_set ?_ GE581.out|refine below_set ?_ GE613.out)|exact HB.out)) hb);clear HO_567001 HO_575001 HO_582001 HO602 HO606 HO610 BK550 BK566 BK574 BK581 BK613 HB;have HO_567001:=n0_;have HO_575001:=n1_;have HO_582001:=n2_;have HO602:=n3_;have HO606:=n4_;have HO610:=n5_;have BK550:=n6_;have BK566:=n7_;have BK574:=n8_;have BK581:=n9_;have BK613:=n10_;have HB:=n11_;clear n0_ n1_ n2_ n3_ n4_ n5_ n6_ n7_ n8_ n9_ n10_ n11_;(try clear hb);(try clear hb2);(try clear hk);(try clear hi)))
                go_meet
                case rel => exact ⟨_,(true),(by first|rfl|(simp;done)|(simp [*];done)),H',⟨by have:=HJ17.out;have:=HJ85.out;first|omega|exact Nat.le_refl _⟩,⟨by (try simp only [hl575001_85]);(with_reducible repeat (first|apply Kd.R_alloc|apply Kd.R_drewN|apply Kd.R_drew));exact Kd.R_mono HO_567001.out (fun _ hk => ⟨hk.2.2.1,⟨hk.2.2.2,hk.2.1⟩⟩)⟩,⟨by (try simp only [hl575001_85]);(with_reducible repeat (first|apply Kd.R_alloc|apply Kd.R_drewN|apply Kd.R_drew));exact Kd.R_mono HO_575001.out (fun _ hk => ⟨hk.2.2.1,⟨hk.2.2.2,hk.2.1⟩⟩)⟩,⟨by (try simp only [hl575001_85]);(with_reducible repeat (first|apply Kd.R_alloc|apply Kd.R_drewN|apply Kd.R_drew));exact Kd.R_mono HO_582001.out (fun _ hk => ⟨hk.2.2.1,⟨hk.2.2.2,hk.2.1⟩⟩)⟩,⟨by (try simp only [hl575001_85]);(with_reducible repeat (first|apply Kd.R_alloc|apply Kd.R_drewN|apply Kd.R_drew));exact Kd.R_mono HO610.out (fun _ hk => ⟨hk.2.1,⟨hk.2.2.1,hk.2.2.2⟩⟩)⟩,⟨by (try simp only [hl575001_85]);(with_reducible repeat (first|refine blk_drewN ?_ _|refine blk_drew ?_|refine blk_alloc ?_ _));exact BK550.out⟩,⟨by (try simp only [hl575001_85]);(with_reducible repeat (first|refine blk_drewN ?_ _|refine blk_drew ?_|refine blk_alloc ?_ _));exact BK566.out⟩,⟨by (try simp only [hl575001_85]);(with_reducible repeat (first|refine blk_drewN ?_ _|refine blk_drew ?_|refine blk_alloc ?_ _));exact BK574.out⟩,⟨by (try simp only [hl575001_85]);(with_reducible repeat (first|refine blk_drewN ?_ _|refine blk_drew ?_|refine blk_alloc ?_ _));exact BK581.out⟩,⟨by (try simp only [hl575001_85]);(with_reducible repeat (first|refine blk_drewN ?_ _|refine blk_drew ?_|refine blk_alloc ?_ _));exact BK613.out⟩,⟨lup HB.out⟩⟩
              ·replace c162:=Bool.eq_false_iff.mpr c162
               subst c162
               have H1 : (laws_FnExactYoungAlloc.j2 kj85 t597 true t575 t598) = some r:=by rw [if_neg (show ¬ (false = true) by decide)] at H;exact H
               clear H
               have H:=H1
               clear H1
               have H':=am H
               clear H
               have hnb184:=NB613_550.out
               have hnc184:=NB550_613.out
               have hnb185:=NB613_566.out
               have hnc185:=NB566_613.out
               have hnb186:=NB613_574.out
               have hnc186:=NB574_613.out
               have hnb187:=NB613_581.out
               have hnc187:=NB581_613.out
               have hcz188_0 : w157.cell? ⟨gb613,0,none⟩ = some (.int .i64 0):=(blk_cell BK613.out 0).trans rfl
               have hcz188_1 : w157.cell? ⟨gb613,1,none⟩ = some (.slice none 0 0):=(blk_cell BK613.out 1).trans rfl
               have hfz188_0:=blk_frozen BK613.out 0
               have hfz188_1:=blk_frozen BK613.out 1
               have hnb189:=NB566_550.out
               have hnc189:=NB550_566.out
               have hnb190:=NB566_574.out
               have hnc190:=NB574_566.out
               have hnb191:=NB566_581.out
               have hnc191:=NB581_566.out
               have hcz192_0 : w157.cell? ⟨gb566,0,none⟩ = some (.int .i64 t560):=(blk_cell BK566.out 0).trans rfl
               have hcz192_1 : w157.cell? ⟨gb566,1,none⟩ = some (.slice Ao31 t561.length co31):=(blk_cell BK566.out 1).trans rfl
               have hfz192_0:=blk_frozen BK566.out 0
               have hfz192_1:=blk_frozen BK566.out 1
               go_wp2_with (first|((with_reducible refine gate_callee (f:=23) rfl ?_);refine goesL_ (some 125) rfl rfl Tryd.func23 (by kernel_rfl) rfl #[.agg #[.int .i64 t607,.slice Ao159 t608.length co159],.agg #[.int .i64 t560,.slice Ao31 t561.length co31]] rfl (by (try simp only [List.map_toArray,List.map_cons,List.map_nil]);first|done|rfl|(simp only [List.length_drop,List.length_take];rfl)) ?_;(with_reducible refine (laws_eqNursery.calls kj85 t607 _ _ t608 t560 _ _ t561 false _ ?side1 ?side2 ?side3 ?side4 A161.out).mono ?_);(case side1 => refine (Kd.R_reads' (e:=2) (base:=w.heap.size) (ok:=fun k_ => (some k_≠(v605 : Value).ownBlock∧(some k_≠(.slice Ao31 t561.length co31 : Value).ownBlock∧(some k_≠(.slice Ao41 t595.length co41 : Value).ownBlock∧some k_≠(.slice Ao49 t576.length co49 : Value).ownBlock)))) (n:=t608.length) (c:=co159) ?_).2.2;exact (by (with_reducible repeat (first|apply Kd.R_alloc|apply Kd.R_drewN|apply Kd.R_drew));exact (Kd.R_mono (Kd.R_far (p:=⟨gb613,1,none⟩) (Kd.R_far (p:=⟨gb613,0,none⟩) (Kd.R_types HO610.out BK613.out (by decide)) (fun _ hk => hk.2) (.int .i64 t607)) (fun _ hk => hk.2) (.slice Ao159 t608.length co159)) (fun _ h_ => h_.1))));(case side2 => exact (Kd.R_reads' HO610.out).2.1);(case side3 => refine (Kd.R_reads' (e:=2) (base:=w.heap.size) (ok:=fun k_ => (some k_≠(v605 : Value).ownBlock∧(some k_≠(.slice Ao159 t608.length co159 : Value).ownBlock∧(some k_≠(.slice Ao41 t595.length co41 : Value).ownBlock∧some k_≠(.slice Ao49 t576.length co49 : Value).ownBlock)))) (n:=t561.length) (c:=co31) ?_).2.2;exact (by (with_reducible repeat (first|apply Kd.R_alloc|apply Kd.R_drewN|apply Kd.R_drew));exact (Kd.R_mono (Kd.R_far (p:=⟨gb613,1,none⟩) (Kd.R_far (p:=⟨gb613,0,none⟩) (Kd.R_types HO_567001.out BK613.out (by decide)) (fun _ hk => hk.2) (.int .i64 t607)) (fun _ hk => hk.2) (.slice Ao159 t608.length co159)) (fun _ h_ => h_.1))));(case side4 => exact (Kd.R_reads' HO_567001.out).2.1);rintro e w193 ⟨rfl,hb⟩;refine ⟨_,rfl,?_⟩;have n0_:=am (Kd.R_below (by (with_reducible repeat (first|apply Kd.R_alloc|apply Kd.R_drewN|apply Kd.R_drew));exact (Kd.R_mono (Kd.R_far (p:=⟨gb613,1,none⟩) (Kd.R_far (p:=⟨gb613,0,none⟩) (Kd.R_types HO_567001.out BK613.out (by decide)) (fun _ hk => hk.2) (.int .i64 t607)) (fun _ hk => hk.2) (.slice Ao159 t608.length co159)) (fun _ h_ => h_.1))) hb);have n1_:=am (Kd.R_below (by (with_reducible repeat (first|apply Kd.R_alloc|apply Kd.R_drewN|apply Kd.R_drew));exact (Kd.R_mono (Kd.R_far (p:=⟨gb613,1,none⟩) (Kd.R_far (p:=⟨gb613,0,none⟩) (Kd.R_types HO_575001.out BK613.out (by decide)) (fun _ hk => hk.2) (.int .i64 t607)) (fun _ hk => hk.2) (.slice Ao159 t608.length co159)) (fun _ h_ => h_.1))) hb);have n2_:=am (Kd.R_below (by (with_reducible repeat (first|apply Kd.R_alloc|apply Kd.R_drewN|apply Kd.R_drew));exact (Kd.R_mono (Kd.R_far (p:=⟨gb613,1,none⟩) (Kd.R_far (p:=⟨gb613,0,none⟩) (Kd.R_types HO_582001.out BK613.out (by decide)) (fun _ hk => hk.2) (.int .i64 t607)) (fun _ hk => hk.2) (.slice Ao159 t608.length co159)) (fun _ h_ => h_.1))) hb);have n3_:=am (Kd.R_below (by (with_reducible repeat (first|apply Kd.R_alloc|apply Kd.R_drewN|apply Kd.R_drew));exact (Kd.R_mono (Kd.R_far (p:=⟨gb613,1,none⟩) (Kd.R_far (p:=⟨gb613,0,none⟩) (Kd.R_types HO602.out BK613.out (by decide)) (fun _ hk => hk.2) (.int .i64 t607)) (fun _ hk => hk.2) (.slice Ao159 t608.length co159)) (fun _ h_ => h_.1))) hb);have n4_:=am (Kd.R_below (by (with_reducible repeat (first|apply Kd.R_alloc|apply Kd.R_drewN|apply Kd.R_drew));exact (Kd.R_mono (Kd.R_far (p:=⟨gb613,1,none⟩) (Kd.R_far (p:=⟨gb613,0,none⟩) (Kd.R_types HO606.out BK613.out (by decide)) (fun _ hk => hk.2) (.int .i64 t607)) (fun _ hk => hk.2) (.slice Ao159 t608.length co159)) (fun _ h_ => h_.1))) hb);have n5_:=am (Kd.R_below (by (with_reducible repeat (first|apply Kd.R_alloc|apply Kd.R_drewN|apply Kd.R_drew));exact (Kd.R_mono (Kd.R_far (p:=⟨gb613,1,none⟩) (Kd.R_far (p:=⟨gb613,0,none⟩) (Kd.R_types HO610.out BK613.out (by decide)) (fun _ hk => hk.2) (.int .i64 t607)) (fun _ hk => hk.2) (.slice Ao159 t608.length co159)) (fun _ h_ => h_.1))) hb);have n6_:=am (blk_below (g:=gb550) (o:=.cells #[.int .i64 a1_0,.slice A1_1 l1_1.length c1_1] 25 (0,0)) (by (with_reducible repeat (first|refine blk_drewN ?_ _|refine blk_drew ?_|refine blk_alloc ?_ _));refine blk_far ?_ NB550_613.out _;(with_reducible repeat (first|refine blk_drewN ?_ _|refine blk_drew ?_|refine blk_alloc ?_ _));refine blk_far ?_ NB550_613.out _;(with_reducible repeat (first|refine blk_drewN ?_ _|refine blk_drew ?_|refine blk_alloc ?_ _));exact BK550.out) hb);have n7_:=am (blk_below (g:=gb566) (o:=.cells #[.int .i64 t560,.slice Ao31 t561.length co31] 30 (0,0)) (by (with_reducible repeat (first|refine blk_drewN ?_ _|refine blk_drew ?_|refine blk_alloc ?_ _));refine blk_far ?_ NB566_613.out _;(with_reducible repeat (first|refine blk_drewN ?_ _|refine blk_drew ?_|refine blk_alloc ?_ _));refine blk_far ?_ NB566_613.out _;(with_reducible repeat (first|refine blk_drewN ?_ _|refine blk_drew ?_|refine blk_alloc ?_ _));exact BK566.out) hb);have n8_:=am (blk_below (g:=gb574) (o:=.cells #[.int .i64 t570,.slice Ao41 t595.length co41] 30 (0,0)) (by (with_reducible repeat (first|refine blk_drewN ?_ _|refine blk_drew ?_|refine blk_alloc ?_ _));refine blk_far ?_ NB574_613.out _;(with_reducible repeat (first|refine blk_drewN ?_ _|refine blk_drew ?_|refine blk_alloc ?_ _));refine blk_far ?_ NB574_613.out _;(with_reducible repeat (first|refine blk_drewN ?_ _|refine blk_drew ?_|refine blk_alloc ?_ _));exact BK574.out) hb);have n9_:=am (blk_below (g:=gb581) (o:=.cells #[.int .i64 t575,.slice Ao49 t576.length co49] 30 (0,0)) (by (with_reducible repeat (first|refine blk_drewN ?_ _|refine blk_drew ?_|refine blk_alloc ?_ _));refine blk_far ?_ NB581_613.out _;(with_reducible repeat (first|refine blk_drewN ?_ _|refine blk_drew ?_|refine blk_alloc ?_ _));refine blk_far ?_ NB581_613.out _;(with_reducible repeat (first|refine blk_drewN ?_ _|refine blk_drew ?_|refine blk_alloc ?_ _));exact BK581.out) hb);have n10_:=am (blk_below (g:=gb613) (o:=.cells #[.int .i64 t607,.slice Ao159 t608.length co159] 30 (0,0)) (by (with_reducible repeat (first|refine blk_drewN ?_ _|refine blk_drew ?_|refine blk_alloc ?_ _));refine blk_put (cs:=#[.int .i64 t607,.slice none 0 0]) ?_ 1 _ rfl;(with_reducible repeat (first|refine blk_drewN ?_ _|refine blk_drew ?_|refine blk_alloc ?_ _));refine blk_put (cs:=#[.int .i64 0,.slice none 0 0]) ?_ 0 _ rfl;(with_reducible repeat (first|refine blk_drewN ?_ _|refine blk_drew ?_|refine blk_alloc ?_ _));exact BK613.out) hb);have n11_:=am (below_step (by repeat (first|(with_reducible first|exact HB.out|apply below_alloc|apply pw_below_drewN|apply below_drew1|refine below_set ?_ GE550.out|refine below_set ?_ GE566.out|refine below_set ?_ GE574.out|refine below_set ?_ GE581.out|refine below_set ?_ GE613.out)|exact HB.out)) hb);clear HO_567001 HO_575001 HO_582001 HO602 HO606 HO610 BK550 BK566 BK574 BK581 BK613 HB;have HO_567001:=n0_;have HO_575001:=n1_;have HO_582001:=n2_;have HO602:=n3_;have HO606:=n4_;have HO610:=n5_;have BK550:=n6_;have BK566:=n7_;have BK574:=n8_;have BK581:=n9_;have BK613:=n10_;have HB:=n11_;clear n0_ n1_ n2_ n3_ n4_ n5_ n6_ n7_ n8_ n9_ n10_ n11_;(try clear hb);(try clear hb2);(try clear hk);(try clear hi)))
               go_meet
               case rel => exact ⟨_,(true),(by first|rfl|(simp;done)|(simp [*];done)),H',⟨by have:=HJ17.out;have:=HJ85.out;first|omega|exact Nat.le_refl _⟩,⟨by (try simp only [hl575001_85]);(with_reducible repeat (first|apply Kd.R_alloc|apply Kd.R_drewN|apply Kd.R_drew));exact Kd.R_mono HO_567001.out (fun _ hk => ⟨hk.2.2.1,⟨hk.2.2.2,hk.2.1⟩⟩)⟩,⟨by (try simp only [hl575001_85]);(with_reducible repeat (first|apply Kd.R_alloc|apply Kd.R_drewN|apply Kd.R_drew));exact Kd.R_mono HO_575001.out (fun _ hk => ⟨hk.2.2.1,⟨hk.2.2.2,hk.2.1⟩⟩)⟩,⟨by (try simp only [hl575001_85]);(with_reducible repeat (first|apply Kd.R_alloc|apply Kd.R_drewN|apply Kd.R_drew));exact Kd.R_mono HO_582001.out (fun _ hk => ⟨hk.2.2.1,⟨hk.2.2.2,hk.2.1⟩⟩)⟩,⟨by (try simp only [hl575001_85]);(with_reducible repeat (first|apply Kd.R_alloc|apply Kd.R_drewN|apply Kd.R_drew));exact Kd.R_mono HO610.out (fun _ hk => ⟨hk.2.1,⟨hk.2.2.1,hk.2.2.2⟩⟩)⟩,⟨by (try simp only [hl575001_85]);(with_reducible repeat (first|refine blk_drewN ?_ _|refine blk_drew ?_|refine blk_alloc ?_ _));exact BK550.out⟩,⟨by (try simp only [hl575001_85]);(with_reducible repeat (first|refine blk_drewN ?_ _|refine blk_drew ?_|refine blk_alloc ?_ _));exact BK566.out⟩,⟨by (try simp only [hl575001_85]);(with_reducible repeat (first|refine blk_drewN ?_ _|refine blk_drew ?_|refine blk_alloc ?_ _));exact BK574.out⟩,⟨by (try simp only [hl575001_85]);(with_reducible repeat (first|refine blk_drewN ?_ _|refine blk_drew ?_|refine blk_alloc ?_ _));exact BK581.out⟩,⟨by (try simp only [hl575001_85]);(with_reducible repeat (first|refine blk_drewN ?_ _|refine blk_drew ?_|refine blk_alloc ?_ _));exact BK613.out⟩,⟨lup HB.out⟩⟩
             case rest =>
              clear HC142
              try clear c1
              try clear c2
              try clear p2
              try clear c3
              try clear c16
              try clear c17
              try clear c18
              try clear c19
              try clear c20
              try clear c23
              try clear c39
              try clear c162
              try clear c163
              try clear c163b0
              try clear c163b1
              try clear c164
              try clear c165
              try clear c166
              try clear c167
              try clear c169
              try clear c170
              try clear c171
              try clear c174
              try clear c175
              try clear c176
              try clear c177
              try clear c179
              try clear c180
              try clear c181
              try clear c184
              try clear c185
              try clear c186
              try clear c187
              try clear c189
              try clear c190
              try clear c191
              try clear hcz168_0
              try clear hcz168_1
              try clear hcz172_0
              try clear hcz172_1
              try clear hcz178_0
              try clear hcz178_1
              try clear hcz182_0
              try clear hcz182_1
              try clear hcz188_0
              try clear hcz188_1
              try clear hcz192_0
              try clear hcz192_1
              try clear hfz168_0
              try clear hfz168_1
              try clear hfz172_0
              try clear hfz172_1
              try clear hfz178_0
              try clear hfz178_1
              try clear hfz182_0
              try clear hfz182_1
              try clear hfz188_0
              try clear hfz188_1
              try clear hfz192_0
              try clear hfz192_1
              obtain ⟨kq,x136_141,rfl,HA,HJ141,HO_567001,HO_575001,HO_582001,HO_614001,BK550,BK566,BK574,BK581,BK613,HB⟩:=hcut
              have hl582001_141:=(Kd.R_reads' HO_582001.out).1
              rw [hl582001_141] at HO_582001
              (try simp only [hl582001_141])
              (try simp only [hl582001_141] at BK550)
              (try simp only [hl582001_141] at BK566)
              (try simp only [hl582001_141] at BK574)
              (try simp only [hl582001_141] at BK581)
              (try simp only [hl582001_141] at BK613)
              (try simp only [hl582001_141] at HO_567001)
              (try simp only [hl582001_141] at HO_575001)
              (try simp only [hl582001_141] at HO_614001)
              cases kq with
              | zero => exact absurd HA.out (by simp [laws_FnExactYoungAlloc.j2])
              | succ kj141 =>
               have H:=HA.out
               clear HA
               simp only [laws_FnExactYoungAlloc.j2] at H
               by_cases c194 : x136_141 = true
               ·subst c194
                have H1:=H;rw [if_pos rfl] at H1
                clear H
                have H:=H1
                clear H1
                obtain rfl:=Option.some.inj H
                go_wp2
                go_ret
                exact ⟨by first|rfl|(simp [errW_none,errW_some] <;> rfl)|(simp [*,errW_none,errW_some] <;> rfl),by repeat (first|(with_reducible first|exact HB.out|apply below_alloc|apply pw_below_drewN|apply below_drew1|refine below_set ?_ GE550.out|refine below_set ?_ GE566.out|refine below_set ?_ GE574.out|refine below_set ?_ GE581.out|refine below_set ?_ GE613.out)|exact HB.out)⟩
               ·replace c194:=Bool.eq_false_iff.mpr c194
                subst c194
                have H1 : ((laws_heldNursery.f kj141 t575 t598 1).bind fun t615 => (if t615 < 0 then (some false) else (if t615 = t597 then (some true) else (some false)))) = some r:=by rw [if_neg (show ¬ (false = true) by decide)] at H;exact H
                clear H
                have H:=H1
                clear H1
                replace H:=Option.bind_eq_some_iff.mp H
                obtain ⟨t615,A1950,H⟩:=H
                try dsimp only at H
                have A195:=am A1950
                clear A1950
                by_cases c196 : t615 < 0
                ·rw [if_pos c196] at H
                 have c196b0 : decide (t615 < 0) = true:=decide_eq_true c196
                 clear c196
                 obtain rfl:=Option.some.inj H
                 have hnb197:=NB581_550.out
                 have hnc197:=NB550_581.out
                 have hnb198:=NB581_566.out
                 have hnc198:=NB566_581.out
                 have hnb199:=NB581_574.out
                 have hnc199:=NB574_581.out
                 have hnb200:=NB581_613.out
                 have hnc200:=NB613_581.out
                 have hcz201_0 : wc.cell? ⟨gb581,0,none⟩ = some (.int .i64 t575):=(blk_cell BK581.out 0).trans rfl
                 have hcz201_1 : wc.cell? ⟨gb581,1,none⟩ = some (.slice Ao49 t598.length co49):=(blk_cell BK581.out 1).trans rfl
                 have hfz201_0:=blk_frozen BK581.out 0
                 have hfz201_1:=blk_frozen BK581.out 1
                 go_wp2_with (first|((with_reducible refine gate_callee (f:=40) rfl ?_);refine goesL_ (some 139) rfl rfl Tryd.func40 (by kernel_rfl) rfl #[.agg #[.int .i64 t575,.slice Ao49 t598.length co49],.int .i64 1] rfl (by (try simp only [List.map_toArray,List.map_cons,List.map_nil]);first|done|rfl|(simp only [List.length_drop,List.length_take];rfl)) ?_;(with_reducible refine (laws_heldNursery.calls kj141 t575 _ _ t598 1 t615 _ ?side1 ?side2 A195.out).mono ?_);(case side1 => repeat (first|exact (Kd.R_reads' HO_582001.out).2.2|(with_reducible first|refine Kd.C_alloc ?_ _|refine Kd.C_drewN ?_ _|refine Kd.C_drew ?_)));(case side2 => exact (Kd.R_reads' HO_582001.out).2.1);rintro e w202 ⟨rfl,hb⟩;refine ⟨_,rfl,?_⟩;have n0_:=am (Kd.R_below (kup HO_567001.out) hb);have n1_:=am (Kd.R_below (kup HO_575001.out) hb);have n2_:=am (Kd.R_below (kup HO_582001.out) hb);have n3_:=am (Kd.R_below (kup HO_614001.out) hb);have n4_:=am (blk_below (bup BK550.out) hb);have n5_:=am (blk_below (bup BK566.out) hb);have n6_:=am (blk_below (bup BK574.out) hb);have n7_:=am (blk_below (bup BK581.out) hb);have n8_:=am (blk_below (bup BK613.out) hb);have n9_:=am (below_step (lup HB.out) hb);clear HO_567001 HO_575001 HO_582001 HO_614001 BK550 BK566 BK574 BK581 BK613 HB;have HO_567001:=n0_;have HO_575001:=n1_;have HO_582001:=n2_;have HO_614001:=n3_;have BK550:=n4_;have BK566:=n5_;have BK574:=n6_;have BK581:=n7_;have BK613:=n8_;have HB:=n9_;clear n0_ n1_ n2_ n3_ n4_ n5_ n6_ n7_ n8_ n9_;(try clear hb);(try clear hb2);(try clear hk);(try clear hi)))
                 go_ret
                 exact ⟨by first|rfl|(simp [errW_none,errW_some] <;> rfl)|(simp [*,errW_none,errW_some] <;> rfl),by repeat (first|(with_reducible first|exact HB.out|apply below_alloc|apply pw_below_drewN|apply below_drew1|refine below_set ?_ GE550.out|refine below_set ?_ GE566.out|refine below_set ?_ GE574.out|refine below_set ?_ GE581.out|refine below_set ?_ GE613.out)|exact HB.out)⟩
                ·rw [if_neg c196] at H
                 have c196b0 : decide (t615 < 0) = false:=decide_eq_false c196
                 clear c196
                 by_cases c203 : t615 = t597
                 ·rw [if_pos c203] at H
                  have c203b0 : (t615 == t597) = true:=beq_iff_eq.mpr c203
                  have c203b1 : (t615 != t597) = false:=bne_eq_false_iff_eq.mpr c203
                  clear c203
                  obtain rfl:=Option.some.inj H
                  have hnb204:=NB581_550.out
                  have hnc204:=NB550_581.out
                  have hnb205:=NB581_566.out
                  have hnc205:=NB566_581.out
                  have hnb206:=NB581_574.out
                  have hnc206:=NB574_581.out
                  have hnb207:=NB581_613.out
                  have hnc207:=NB613_581.out
                  have hcz208_0 : wc.cell? ⟨gb581,0,none⟩ = some (.int .i64 t575):=(blk_cell BK581.out 0).trans rfl
                  have hcz208_1 : wc.cell? ⟨gb581,1,none⟩ = some (.slice Ao49 t598.length co49):=(blk_cell BK581.out 1).trans rfl
                  have hfz208_0:=blk_frozen BK581.out 0
                  have hfz208_1:=blk_frozen BK581.out 1
                  go_wp2_with (first|((with_reducible refine gate_callee (f:=40) rfl ?_);refine goesL_ (some 139) rfl rfl Tryd.func40 (by kernel_rfl) rfl #[.agg #[.int .i64 t575,.slice Ao49 t598.length co49],.int .i64 1] rfl (by (try simp only [List.map_toArray,List.map_cons,List.map_nil]);first|done|rfl|(simp only [List.length_drop,List.length_take];rfl)) ?_;(with_reducible refine (laws_heldNursery.calls kj141 t575 _ _ t598 1 t615 _ ?side1 ?side2 A195.out).mono ?_);(case side1 => repeat (first|exact (Kd.R_reads' HO_582001.out).2.2|(with_reducible first|refine Kd.C_alloc ?_ _|refine Kd.C_drewN ?_ _|refine Kd.C_drew ?_)));(case side2 => exact (Kd.R_reads' HO_582001.out).2.1);rintro e w209 ⟨rfl,hb⟩;refine ⟨_,rfl,?_⟩;have n0_:=am (Kd.R_below (kup HO_567001.out) hb);have n1_:=am (Kd.R_below (kup HO_575001.out) hb);have n2_:=am (Kd.R_below (kup HO_582001.out) hb);have n3_:=am (Kd.R_below (kup HO_614001.out) hb);have n4_:=am (blk_below (bup BK550.out) hb);have n5_:=am (blk_below (bup BK566.out) hb);have n6_:=am (blk_below (bup BK574.out) hb);have n7_:=am (blk_below (bup BK581.out) hb);have n8_:=am (blk_below (bup BK613.out) hb);have n9_:=am (below_step (lup HB.out) hb);clear HO_567001 HO_575001 HO_582001 HO_614001 BK550 BK566 BK574 BK581 BK613 HB;have HO_567001:=n0_;have HO_575001:=n1_;have HO_582001:=n2_;have HO_614001:=n3_;have BK550:=n4_;have BK566:=n5_;have BK574:=n6_;have BK581:=n7_;have BK613:=n8_;have HB:=n9_;clear n0_ n1_ n2_ n3_ n4_ n5_ n6_ n7_ n8_ n9_;(try clear hb);(try clear hb2);(try clear hk);(try clear hi)))
                  go_ret
                  exact ⟨by first|rfl|(simp [errW_none,errW_some] <;> rfl)|(simp [*,errW_none,errW_some] <;> rfl),by repeat (first|(with_reducible first|exact HB.out|apply below_alloc|apply pw_below_drewN|apply below_drew1|refine below_set ?_ GE550.out|refine below_set ?_ GE566.out|refine below_set ?_ GE574.out|refine below_set ?_ GE581.out|refine below_set ?_ GE613.out)|exact HB.out)⟩
                 ·rw [if_neg c203] at H
                  have c203b0 : (t615 == t597) = false:=beq_eq_false_iff_ne.mpr c203
                  have c203b1 : (t615 != t597) = true:=bne_iff_ne.mpr c203
                  obtain rfl:=Option.some.inj H
                  have hnb210:=NB581_550.out
                  have hnc210:=NB550_581.out
                  have hnb211:=NB581_566.out
                  have hnc211:=NB566_581.out
                  have hnb212:=NB581_574.out
                  have hnc212:=NB574_581.out
                  have hnb213:=NB581_613.out
                  have hnc213:=NB613_581.out
                  have hcz214_0 : wc.cell? ⟨gb581,0,none⟩ = some (.int .i64 t575):=(blk_cell BK581.out 0).trans rfl
                  have hcz214_1 : wc.cell? ⟨gb581,1,none⟩ = some (.slice Ao49 t598.length co49):=(blk_cell BK581.out 1).trans rfl
                  have hfz214_0:=blk_frozen BK581.out 0
                  have hfz214_1:=blk_frozen BK581.out 1
                  go_wp2_with (first|((with_reducible refine gate_callee (f:=40) rfl ?_);refine goesL_ (some 139) rfl rfl Tryd.func40 (by kernel_rfl) rfl #[.agg #[.int .i64 t575,.slice Ao49 t598.length co49],.int .i64 1] rfl (by (try simp only [List.map_toArray,List.map_cons,List.map_nil]);first|done|rfl|(simp only [List.length_drop,List.length_take];rfl)) ?_;(with_reducible refine (laws_heldNursery.calls kj141 t575 _ _ t598 1 t615 _ ?side1 ?side2 A195.out).mono ?_);(case side1 => repeat (first|exact (Kd.R_reads' HO_582001.out).2.2|(with_reducible first|refine Kd.C_alloc ?_ _|refine Kd.C_drewN ?_ _|refine Kd.C_drew ?_)));(case side2 => exact (Kd.R_reads' HO_582001.out).2.1);rintro e w215 ⟨rfl,hb⟩;refine ⟨_,rfl,?_⟩;have n0_:=am (Kd.R_below (kup HO_567001.out) hb);have n1_:=am (Kd.R_below (kup HO_575001.out) hb);have n2_:=am (Kd.R_below (kup HO_582001.out) hb);have n3_:=am (Kd.R_below (kup HO_614001.out) hb);have n4_:=am (blk_below (bup BK550.out) hb);have n5_:=am (blk_below (bup BK566.out) hb);have n6_:=am (blk_below (bup BK574.out) hb);have n7_:=am (blk_below (bup BK581.out) hb);have n8_:=am (blk_below (bup BK613.out) hb);have n9_:=am (below_step (lup HB.out) hb);clear HO_567001 HO_575001 HO_582001 HO_614001 BK550 BK566 BK574 BK581 BK613 HB;have HO_567001:=n0_;have HO_575001:=n1_;have HO_582001:=n2_;have HO_614001:=n3_;have BK550:=n4_;have BK566:=n5_;have BK574:=n6_;have BK581:=n7_;have BK613:=n8_;have HB:=n9_;clear n0_ n1_ n2_ n3_ n4_ n5_ n6_ n7_ n8_ n9_;(try clear hb);(try clear hb2);(try clear hk);(try clear hi)))
                  go_ret
                  exact ⟨by first|rfl|(simp [errW_none,errW_some] <;> rfl)|(simp [*,errW_none,errW_some] <;> rfl),by repeat (first|(with_reducible first|exact HB.out|apply below_alloc|apply pw_below_drewN|apply below_drew1|refine below_set ?_ GE550.out|refine below_set ?_ GE566.out|refine below_set ?_ GE574.out|refine below_set ?_ GE581.out|refine below_set ?_ GE613.out)|exact HB.out)⟩
            ·rw [if_neg c138] at H
             have c138b0 : (t599 == t597) = false:=beq_eq_false_iff_ne.mpr c138
             have c138b1 : (t599 != t597) = true:=bne_iff_ne.mpr c138
             obtain rfl:=Option.some.inj H
             have hnb216:=NB581_550.out
             have hnc216:=NB550_581.out
             have hnb217:=NB581_566.out
             have hnc217:=NB566_581.out
             have hnb218:=NB581_574.out
             have hnc218:=NB574_581.out
             have hcz219_0 : wc.cell? ⟨gb581,0,none⟩ = some (.int .i64 t575):=(blk_cell BK581.out 0).trans rfl
             have hcz219_1 : wc.cell? ⟨gb581,1,none⟩ = some (.slice Ao49 t576.length co49):=(blk_cell BK581.out 1).trans rfl
             have hfz219_0:=blk_frozen BK581.out 0
             have hfz219_1:=blk_frozen BK581.out 1
             go_wp2_with (first|((with_reducible refine gate_callee (f:=28) rfl ?_);refine goesL_ (some 104) rfl rfl Tryd.func28 (by kernel_rfl) rfl #[.agg #[.int .i64 t575,.slice Ao49 t576.length co49],.int .i64 1] rfl (by (try simp only [List.map_toArray,List.map_cons,List.map_nil]);first|done|rfl|(simp only [List.length_drop,List.length_take];rfl)) ?_;(with_reducible refine (laws_markNursery.calls kj85 t575 (fun k_ => some k_ = (.slice Ao49 t576.length co49 : Value).ownBlock) (.slice Ao49 t576.length co49) t576 1 t597 t598 w _ ?side1 ?side2 A128.out).mono ?_);(case side1 => repeat (first|(with_reducible first|exact HB.out|apply below_alloc|apply pw_below_drewN|apply below_drew1|refine below_set ?_ GE550.out|refine below_set ?_ GE566.out|refine below_set ?_ GE574.out|refine below_set ?_ GE581.out)|exact HB.out));(case side2 => exact Kd.R_tight rfl HO_582001.out);rintro e w220 ⟨rfl,hy0,hb,hkp⟩;refine ⟨_,rfl,?_⟩;have n0_:=am (Kd.R_mono (ok':=fun k_ => some k_≠(.slice Ao41 t595.length co41 : Value).ownBlock∧some k_≠(.slice Ao49 t576.length co49 : Value).ownBlock) (Kd.R_keptB (HO_567001.out) hkp (fun k_ hk_ hs_ => by first|exact hk_.2 hs_|exact hk_ hs_)) (fun k_ hk_ => by first|exact ⟨hk_.1.1,hk_.1.2⟩|(simp only [and_assoc] at hk_;exact ⟨hk_.1,hk_.2.1⟩)));have n1_:=am (Kd.R_mono (ok':=fun k_ => some k_≠(.slice Ao31 t561.length co31 : Value).ownBlock∧some k_≠(.slice Ao49 t576.length co49 : Value).ownBlock) (Kd.R_keptB (HO_575001.out) hkp (fun k_ hk_ hs_ => by first|exact hk_.2 hs_|exact hk_ hs_)) (fun k_ hk_ => by first|exact ⟨hk_.1.1,hk_.1.2⟩|(simp only [and_assoc] at hk_;exact ⟨hk_.1,hk_.2.1⟩)));have n2_:=am (Kd.R_reok rfl hy0 (fun k_ e_ => HO_582001.out.1 k_ e_));have n3_:=am (blk_kept (bup BK550.out) hkp (fun hs_ => (fun e_ => (Kd.R_ne HO_582001.out BK550.out (by decide)) e_) hs_));have n4_:=am (blk_kept (bup BK566.out) hkp (fun hs_ => (fun e_ => (Kd.R_ne HO_582001.out BK566.out (by decide)) e_) hs_));have n5_:=am (blk_kept (bup BK574.out) hkp (fun hs_ => (fun e_ => (Kd.R_ne HO_582001.out BK574.out (by decide)) e_) hs_));have n6_:=am (blk_kept (bup BK581.out) hkp (fun hs_ => (fun e_ => (Kd.R_ne HO_582001.out BK581.out (by decide)) e_) hs_));have n7_:=am (hb);clear HO_567001 HO_575001 HO_582001 BK550 BK566 BK574 BK581 HB;have HO_567001:=n0_;have HO_575001:=n1_;have HO_582001:=n2_;have BK550:=n3_;have BK566:=n4_;have BK574:=n5_;have BK581:=n6_;have HB:=n7_;clear n0_ n1_ n2_ n3_ n4_ n5_ n6_ n7_;(try clear hb);(try clear hkp);(try clear hy0);have hcz221_0 : w220.cell? ⟨gb581,0,none⟩ = some (.int .i64 t575):=(blk_cell BK581.out 0).trans rfl;have hcz221_1 : w220.cell? ⟨gb581,1,none⟩ = some (.slice Ao49 t576.length co49):=(blk_cell BK581.out 1).trans rfl;have hfz221_0:=blk_frozen BK581.out 0;have hfz221_1:=blk_frozen BK581.out 1)|((with_reducible refine gate_callee (f:=40) rfl ?_);refine goesL_ (some 107) rfl rfl Tryd.func40 (by kernel_rfl) rfl #[.agg #[.int .i64 t575,.slice Ao49 t598.length co49],.int .i64 1] rfl (by (try simp only [List.map_toArray,List.map_cons,List.map_nil]);first|done|(rw [show t598.length = t576.length from (Kd.R_reads' HO_582001.out).1.symm] <;> rfl)|rfl|(simp only [List.length_drop,List.length_take];rfl)) ?_;(with_reducible refine (laws_heldNursery.calls kj85 t575 _ _ t598 1 t599 _ ?side1 ?side2 A129.out).mono ?_);(case side1 => repeat (first|exact (Kd.R_reads' HO_582001.out).2.2|(with_reducible first|refine Kd.C_alloc ?_ _|refine Kd.C_drewN ?_ _|refine Kd.C_drew ?_)));(case side2 => rw [show t598.length = t576.length from (Kd.R_reads' HO_582001.out).1.symm];exact (Kd.R_reads' HO_582001.out).2.1);rintro e w222 ⟨rfl,hb⟩;refine ⟨_,rfl,?_⟩;have n0_:=am (Kd.R_below (kup HO_567001.out) hb);have n1_:=am (Kd.R_below (kup HO_575001.out) hb);have n2_:=am (Kd.R_below (kup HO_582001.out) hb);have n3_:=am (blk_below (bup BK550.out) hb);have n4_:=am (blk_below (bup BK566.out) hb);have n5_:=am (blk_below (bup BK574.out) hb);have n6_:=am (blk_below (bup BK581.out) hb);have n7_:=am (below_step (lup HB.out) hb);clear HO_567001 HO_575001 HO_582001 BK550 BK566 BK574 BK581 HB;have HO_567001:=n0_;have HO_575001:=n1_;have HO_582001:=n2_;have BK550:=n3_;have BK566:=n4_;have BK574:=n5_;have BK581:=n6_;have HB:=n7_;clear n0_ n1_ n2_ n3_ n4_ n5_ n6_ n7_;(try clear hb);(try clear hb2);(try clear hk);(try clear hi)))
             go_ret
             exact ⟨by first|rfl|(simp [errW_none,errW_some] <;> rfl)|(simp [*,errW_none,errW_some] <;> rfl),by repeat (first|(with_reducible first|exact HB.out|apply below_alloc|apply pw_below_drewN|apply below_drew1|refine below_set ?_ GE550.out|refine below_set ?_ GE566.out|refine below_set ?_ GE574.out|refine below_set ?_ GE581.out)|exact HB.out)⟩
       ·replace c83:=Bool.eq_false_iff.mpr c83
        subst c83
        have H1 : (some false) = some r:=by rw [if_neg (show ¬ (false = true) by decide)] at H;exact H
        clear H
        have H:=H1
        clear H1
        obtain rfl:=Option.some.inj H
        try go_wp2_with (first|((with_reducible refine gate_callee (f:=19) rfl ?_);refine goesL_ (some 70) rfl rfl Tryd.func19 (by kernel_rfl) rfl #[.slice A0 l0.length c0] rfl (by (try simp only [List.map_toArray,List.map_cons,List.map_nil]);first|done|rfl|(simp only [List.length_drop,List.length_take];rfl)) ?_;(with_reducible refine (laws_toStringS.calls kj17 _ _ l0 t583 _ ?side1 ?side2 A78.out).mono ?_);(case side1 => repeat (first|exact (Kd.C_below HR0.out HB.out)|(with_reducible first|refine Kd.C_alloc ?_ _|refine Kd.C_drewN ?_ _|refine Kd.C_drew ?_)));(case side2 => exact HC0.out);rintro e w223 ⟨v584,rfl,ho0,hb⟩;refine ⟨_,rfl,?_⟩;have n0_:=am (Kd.R_elder' (kup HO_11.out) (Kd.R_base ho0) hb);have n1_:=am (Kd.R_below (kup HO_567001.out) hb);have n2_:=am (Kd.R_below (kup HO_575001.out) hb);have n3_:=am (Kd.R_below (kup HO_582001.out) hb);have n4_:=am (Kd.R_lower (Kd.R_new' ho0 (Kd.R_lt (kup HO_11.out))) (below_size (lup HB.out)));have n5_:=am (blk_below (bup BK550.out) hb);have n6_:=am (blk_below (bup BK566.out) hb);have n7_:=am (blk_below (bup BK574.out) hb);have n8_:=am (blk_below (bup BK581.out) hb);have n9_:=am (below_step (lup HB.out) hb);clear HO_11 HO_567001 HO_575001 HO_582001 BK550 BK566 BK574 BK581 HB;have HO_11:=n0_;have HO_567001:=n1_;have HO_575001:=n2_;have HO_582001:=n3_;have HO585:=n4_;have BK550:=n5_;have BK566:=n6_;have BK574:=n7_;have BK581:=n8_;have HB:=n9_;clear n0_ n1_ n2_ n3_ n4_ n5_ n6_ n7_ n8_ n9_;(try clear hb);(try clear hb2);(try clear hk);(try clear hi);(try clear ho0);obtain ⟨Ao224,co224,eo224⟩:=Kd.R_slice HO585.out;subst eo224)|((with_reducible refine gate_callee (f:=22) rfl ?_);refine goesL_ (some 71) rfl rfl Tryd.func22 (by kernel_rfl) rfl #[.slice Ao42 t567.length co42,.slice Ao224 t583.length co224] rfl (by (try simp only [List.map_toArray,List.map_cons,List.map_nil]);first|done|rfl|(simp only [List.length_drop,List.length_take];rfl)) ?_;(with_reducible refine (laws_eqStringS.calls kj17 _ _ t567 _ _ t583 true _ ?side1 ?side2 ?side3 ?side4 A79.out).mono ?_);(case side1 => repeat (first|exact (Kd.R_reads' HO_11.out).2.2|(with_reducible first|refine Kd.C_alloc ?_ _|refine Kd.C_drewN ?_ _|refine Kd.C_drew ?_)));(case side2 => exact (Kd.R_reads' HO_11.out).2.1);(case side3 => repeat (first|exact (Kd.R_reads' HO585.out).2.2|(with_reducible first|refine Kd.C_alloc ?_ _|refine Kd.C_drewN ?_ _|refine Kd.C_drew ?_)));(case side4 => exact (Kd.R_reads' HO585.out).2.1);rintro e w' ⟨rfl,⟨nd,rfl⟩⟩;refine ⟨_,rfl,?_⟩))
        (try (rw [drewN_self w223];generalize hq_ : World.drewN w223 _ = w223;have n0_ : Aside0 (Kd.R Kd.string 9 w223 w.heap.size (fun k_ => some k_≠(.slice Ao42 t567.length co42 : Value).ownBlock) (.slice Ao224 t583.length co224) t583):=⟨by rw [← hq_];exact (kup (Kd.R_mono HO585.out (fun _ hk => hk.2)))⟩;have n1_ : Aside0 (Kd.R Kd.string 9 w223 w.heap.size (fun k_ => some k_≠(.slice Ao224 t583.length co224 : Value).ownBlock) (.slice Ao42 t567.length co42) t567):=⟨by rw [← hq_];exact (kup (Kd.R_mono HO_11.out (fun _ hk => hk.2)))⟩;have n2_ : Aside0 (Kd.R (Kd.int .i64) 2 w223 w.heap.size (fun k_ => some k_≠(.slice Ao41 t571.length co41 : Value).ownBlock∧some k_≠(.slice Ao49 t576.length co49 : Value).ownBlock) (.slice Ao31 t561.length co31) t561):=⟨by rw [← hq_];exact (kup HO_567001.out)⟩;have n3_ : Aside0 (Kd.R (Kd.int .i64) 2 w223 w.heap.size (fun k_ => some k_≠(.slice Ao31 t561.length co31 : Value).ownBlock∧some k_≠(.slice Ao49 t576.length co49 : Value).ownBlock) (.slice Ao41 t571.length co41) t571):=⟨by rw [← hq_];exact (kup HO_575001.out)⟩;have n4_ : Aside0 (Kd.R (Kd.int .i64) 2 w223 w.heap.size (fun k_ => some k_≠(.slice Ao31 t561.length co31 : Value).ownBlock∧some k_≠(.slice Ao41 t571.length co41 : Value).ownBlock) (.slice Ao49 t576.length co49) t576):=⟨by rw [← hq_];exact (kup HO_582001.out)⟩;have n5_ : Aside0 (w223.heap[gb550]? = some (.cells #[.int .i64 a1_0,.slice A1_1 l1_1.length c1_1] 25 (0,0))):=⟨by rw [← hq_];exact (bup BK550.out)⟩;have n6_ : Aside0 (w223.heap[gb566]? = some (.cells #[.int .i64 t560,.slice Ao31 t561.length co31] 30 (0,0))):=⟨by rw [← hq_];exact (bup BK566.out)⟩;have n7_ : Aside0 (w223.heap[gb574]? = some (.cells #[.int .i64 t570,.slice Ao41 t571.length co41] 30 (0,0))):=⟨by rw [← hq_];exact (bup BK574.out)⟩;have n8_ : Aside0 (w223.heap[gb581]? = some (.cells #[.int .i64 t575,.slice Ao49 t576.length co49] 30 (0,0))):=⟨by rw [← hq_];exact (bup BK581.out)⟩;have n9_ : Aside0 (Below w.heap.size w w223):=⟨by rw [← hq_];exact (lup HB.out)⟩;clear HO585 HO_11 HO_567001 HO_575001 HO_582001 BK550 BK566 BK574 BK581 HB hq_;have HO585:=n0_;have HO_11:=n1_;have HO_567001:=n2_;have HO_575001:=n3_;have HO_582001:=n4_;have BK550:=n5_;have BK566:=n6_;have BK574:=n7_;have BK581:=n8_;have HB:=n9_;clear n0_ n1_ n2_ n3_ n4_ n5_ n6_ n7_ n8_ n9_))
        have n0_:=am (Kd.R_drew HO_11.out)
        have n1_:=am (Kd.R_drew HO_567001.out)
        have n2_:=am (Kd.R_drew HO_575001.out)
        have n3_:=am (Kd.R_drew HO_582001.out)
        have n4_:=am (Kd.R_drew HO585.out)
        have n5_:=am (blk_drew BK550.out)
        have n6_:=am (blk_drew BK566.out)
        have n7_:=am (blk_drew BK574.out)
        have n8_:=am (blk_drew BK581.out)
        have n9_:=am (below_drew1 HB.out)
        clear HO_11
        clear HO_567001
        clear HO_575001
        clear HO_582001
        clear HO585
        clear BK550
        clear BK566
        clear BK574
        clear BK581
        clear HB
        have HO_11:=n0_
        have HO_567001:=n1_
        have HO_575001:=n2_
        have HO_582001:=n3_
        have HO585:=n4_
        have BK550:=n5_
        have BK566:=n6_
        have BK574:=n7_
        have BK581:=n8_
        have HB:=n9_
        clear n0_ n1_ n2_ n3_ n4_ n5_ n6_ n7_ n8_ n9_
        refine start_ (n:=5) (S:=fun w' => w'.cell? ⟨gb574,0,none⟩ = some (.int .i64 t570)∧w'.cell? ⟨gb574,1,none⟩ = some (.slice Ao41 t571.length co41)∧w'.cell? ⟨gb550,0,none⟩ = some (.int .i64 a1_0)∧w'.cell? ⟨gb550,1,none⟩ = some (.slice A1_1 l1_1.length c1_1)) (ds:=[]) #[false,false,false,false,false] (by kernel_rfl) rfl rfl ⟨(blk_cell BK574.out 0).trans rfl,(blk_cell BK574.out 1).trans rfl,(blk_cell BK550.out 0).trans rfl,(blk_cell BK550.out 1).trans rfl⟩ (fun hHeld => ?_)
        generalize w223.drew = w225 at HO_11 HO_567001 HO_575001 HO_582001 HO585 BK550 BK566 BK574 BK581 HB hHeld ⊢
        refine take_ (i:=0) (N:=some 73) (v:=?_) (a':=?_) #[true,false,false,false,false] rfl rfl (by kernel_rfl) (fun _ _ _ h => h) (Or.inl ⟨by rfl,?_⟩) hHeld ?_ ?_
        rotate_left
        ·rintro w' ⟨s0,s1,s2,s3⟩
         go_simp
         with_reducible rfl
        rotate_left
        ·simp only [Act.put,List.setIfInBounds_toArray,List.set_cons_zero,List.set_cons_succ,i64_w,i32_w]
         rfl
        refine take_ (i:=1) (N:=some 74) (v:=?_) (a':=?_) #[true,true,false,false,false] rfl rfl (by kernel_rfl) (fun _ _ _ h => h) (Or.inl ⟨by rfl,?_⟩) hHeld ?_ ?_
        rotate_left
        ·rintro w' ⟨s0,s1,s2,s3⟩
         go_simp
         with_reducible rfl
        rotate_left
        ·simp only [Act.put,List.setIfInBounds_toArray,List.set_cons_zero,List.set_cons_succ,i64_w,i32_w]
         rfl
        refine one_ (i:=2) (N:=some 75) #[true,true,true,false,false] rfl rfl (by kernel_rfl) (by decide) (fun K hK => ?_)
        refine goes_ Tryd.func20 (by kernel_rfl) rfl #[.agg #[.int .i64 a1_0,.slice A1_1 l1_1.length c1_1]] (by rfl) rfl rfl (by (try simp only [List.map_toArray,List.map_cons,List.map_nil]);first|done|rfl|(simp only [List.length_drop,List.length_take];rfl)) ?_
        with_reducible refine (laws_toNursery.calls kj17 a1_0 _ _ l1_1 t587 t588 _ ?side1 ?side2 A81.out).mono ?_
        (case side1 => repeat (first|exact (Kd.C_below HR1_1.out HB.out)|(with_reducible first|refine Kd.C_alloc ?_ _|refine Kd.C_drewN ?_ _|refine Kd.C_drew ?_)))
        (case side2 => exact HC1_1.out)
        rintro e w226 ⟨v589,rfl,ho0,hb⟩
        refine ⟨_,rfl,?_⟩
        have n0_:=am (Kd.R_below (kup HO_11.out) hb)
        have n1_:=am (Kd.R_elder' (kup HO_567001.out) (Kd.R_base ho0) hb)
        have n2_:=am (Kd.R_elder' (kup HO_575001.out) (Kd.R_base ho0) hb)
        have n3_:=am (Kd.R_elder' (kup HO_582001.out) (Kd.R_base ho0) hb)
        have n4_:=am (Kd.R_below (kup HO585.out) hb)
        have n5_:=am (Kd.R_lower (Kd.R_new' (Kd.R_new' (Kd.R_new' ho0 (Kd.R_lt (kup HO_567001.out))) (Kd.R_lt (kup HO_575001.out))) (Kd.R_lt (kup HO_582001.out))) (below_size (lup HB.out)))
        have n6_:=am (blk_below (bup BK550.out) hb)
        have n7_:=am (blk_below (bup BK566.out) hb)
        have n8_:=am (blk_below (bup BK574.out) hb)
        have n9_:=am (blk_below (bup BK581.out) hb)
        have n10_:=am (below_step (lup HB.out) hb)
        clear HO_11
        clear HO_567001
        clear HO_575001
        clear HO_582001
        clear HO585
        clear BK550
        clear BK566
        clear BK574
        clear BK581
        clear HB
        have HO_11:=n0_
        have HO_567001:=n1_
        have HO_575001:=n2_
        have HO_582001:=n3_
        have HO585:=n4_
        have HO590:=n5_
        have BK550:=n6_
        have BK566:=n7_
        have BK574:=n8_
        have BK581:=n9_
        have HB:=n10_
        clear n0_ n1_ n2_ n3_ n4_ n5_ n6_ n7_ n8_ n9_ n10_
        (try clear hb)
        (try clear hb2)
        (try clear hk)
        (try clear hi)
        (try clear ho0)
        obtain ⟨Ao227,co227,eo227⟩:=Kd.R_slice HO590.out
        (first|subst eo227|(injection eo227 with f1_ f2_ f3_;have f4_:=f1_.symm;have f5_:=f3_.symm;clear f1_ f2_ f3_;subst f4_;subst f5_))
        refine hK.out _ _ ⟨(blk_cell BK574.out 0).trans rfl,(blk_cell BK574.out 1).trans rfl,(blk_cell BK550.out 0).trans rfl,(blk_cell BK550.out 1).trans rfl⟩ (fun hHeld => ?_)
        clear hK K
        refine norm_ (a':=?_) ?_ ?_
        rotate_left
        ·show Act.put _ (some 75) _ = _
         simp only [Act.put,List.setIfInBounds_toArray,List.set_cons_zero,List.set_cons_succ,i64_w,i32_w]
         rfl
        refine one_ (i:=3) (N:=some 76) #[true,true,true,true,false] rfl rfl (by kernel_rfl) (by decide) (fun K hK => ?_)
        refine goes_ Tryd.func23 (by kernel_rfl) rfl #[.agg #[.int .i64 t570,.slice Ao41 t571.length co41],.agg #[.int .i64 t587,.slice Ao227 t588.length co227]] (by rfl) rfl rfl (by (try simp only [List.map_toArray,List.map_cons,List.map_nil]);first|done|rfl|(simp only [List.length_drop,List.length_take];rfl)) ?_
        with_reducible refine (laws_eqNursery.calls kj17 t570 _ _ t571 t587 _ _ t588 false _ ?side1 ?side2 ?side3 ?side4 A82.out).mono ?_
        (case side1 => repeat (first|exact (Kd.R_reads' HO_575001.out).2.2|(with_reducible first|refine Kd.C_alloc ?_ _|refine Kd.C_drewN ?_ _|refine Kd.C_drew ?_)))
        (case side2 => exact (Kd.R_reads' HO_575001.out).2.1)
        (case side3 => repeat (first|exact (Kd.R_reads' HO590.out).2.2|(with_reducible first|refine Kd.C_alloc ?_ _|refine Kd.C_drewN ?_ _|refine Kd.C_drew ?_)))
        (case side4 => exact (Kd.R_reads' HO590.out).2.1)
        rintro e w228 ⟨rfl,hb⟩
        refine ⟨_,rfl,?_⟩
        have n0_:=am (Kd.R_below (kup HO_11.out) hb)
        have n1_:=am (Kd.R_below (kup HO_567001.out) hb)
        have n2_:=am (Kd.R_below (kup HO_575001.out) hb)
        have n3_:=am (Kd.R_below (kup HO_582001.out) hb)
        have n4_:=am (Kd.R_below (kup HO585.out) hb)
        have n5_:=am (Kd.R_below (kup HO590.out) hb)
        have n6_:=am (blk_below (bup BK550.out) hb)
        have n7_:=am (blk_below (bup BK566.out) hb)
        have n8_:=am (blk_below (bup BK574.out) hb)
        have n9_:=am (blk_below (bup BK581.out) hb)
        have n10_:=am (below_step (lup HB.out) hb)
        clear HO_11
        clear HO_567001
        clear HO_575001
        clear HO_582001
        clear HO585
        clear HO590
        clear BK550
        clear BK566
        clear BK574
        clear BK581
        clear HB
        have HO_11:=n0_
        have HO_567001:=n1_
        have HO_575001:=n2_
        have HO_582001:=n3_
        have HO585:=n4_
        have HO590:=n5_
        have BK550:=n6_
        have BK566:=n7_
        have BK574:=n8_
        have BK581:=n9_
        have HB:=n10_
        clear n0_ n1_ n2_ n3_ n4_ n5_ n6_ n7_ n8_ n9_ n10_
        (try clear hb)
        (try clear hb2)
        (try clear hk)
        (try clear hi)
        refine hK.out _ _ ⟨(blk_cell BK574.out 0).trans rfl,(blk_cell BK574.out 1).trans rfl,(blk_cell BK550.out 0).trans rfl,(blk_cell BK550.out 1).trans rfl⟩ (fun hHeld => ?_)
        clear hK K
        refine norm_ (a':=?_) ?_ ?_
        rotate_left
        ·show Act.put _ (some 76) _ = _
         simp only [Act.put,List.setIfInBounds_toArray,List.set_cons_zero,List.set_cons_succ,i64_w,i32_w]
         rfl
        refine pure_ (i:=4) (N:=some 77) (v:=?_) (a':=?_) #[true,true,true,true,true] rfl rfl (by kernel_rfl) (fun _ _ _ h => h) (Or.inl ⟨by rfl,?_⟩) ?_ ?_
        rotate_left
        ·intro w'
         go_simp
         with_reducible rfl
        rotate_left
        ·simp only [Act.put,List.setIfInBounds_toArray,List.set_cons_zero,List.set_cons_succ,i64_w,i32_w]
         rfl
        refine done_ (by kernel_rfl) ?_
        try go_wp2
        go_ret
        exact ⟨by first|rfl|(simp [errW_none,errW_some] <;> rfl)|(simp [*,errW_none,errW_some] <;> rfl),by repeat (first|(with_reducible first|exact HB.out|apply below_alloc|apply pw_below_drewN|apply below_drew1|refine below_set ?_ GE550.out|refine below_set ?_ GE566.out|refine below_set ?_ GE574.out|refine below_set ?_ GE581.out)|exact HB.out)⟩
      ·replace c80:=Bool.eq_false_iff.mpr c80
       subst c80
       have H1 : (some false) = some r:=by rw [if_neg (show ¬ (false = true) by decide)] at H;exact H
       clear H
       have H:=H1
       clear H1
       obtain rfl:=Option.some.inj H
       go_wp2_with (first|((with_reducible refine gate_callee (f:=19) rfl ?_);refine goesL_ (some 70) rfl rfl Tryd.func19 (by kernel_rfl) rfl #[.slice A0 l0.length c0] rfl (by (try simp only [List.map_toArray,List.map_cons,List.map_nil]);first|done|rfl|(simp only [List.length_drop,List.length_take];rfl)) ?_;(with_reducible refine (laws_toStringS.calls kj17 _ _ l0 t583 _ ?side1 ?side2 A78.out).mono ?_);(case side1 => repeat (first|exact (Kd.C_below HR0.out HB.out)|(with_reducible first|refine Kd.C_alloc ?_ _|refine Kd.C_drewN ?_ _|refine Kd.C_drew ?_)));(case side2 => exact HC0.out);rintro e w229 ⟨v584,rfl,ho0,hb⟩;refine ⟨_,rfl,?_⟩;have n0_:=am (Kd.R_elder' (kup HO_11.out) (Kd.R_base ho0) hb);have n1_:=am (Kd.R_below (kup HO_567001.out) hb);have n2_:=am (Kd.R_below (kup HO_575001.out) hb);have n3_:=am (Kd.R_below (kup HO_582001.out) hb);have n4_:=am (Kd.R_lower (Kd.R_new' ho0 (Kd.R_lt (kup HO_11.out))) (below_size (lup HB.out)));have n5_:=am (blk_below (bup BK550.out) hb);have n6_:=am (blk_below (bup BK566.out) hb);have n7_:=am (blk_below (bup BK574.out) hb);have n8_:=am (blk_below (bup BK581.out) hb);have n9_:=am (below_step (lup HB.out) hb);clear HO_11 HO_567001 HO_575001 HO_582001 BK550 BK566 BK574 BK581 HB;have HO_11:=n0_;have HO_567001:=n1_;have HO_575001:=n2_;have HO_582001:=n3_;have HO585:=n4_;have BK550:=n5_;have BK566:=n6_;have BK574:=n7_;have BK581:=n8_;have HB:=n9_;clear n0_ n1_ n2_ n3_ n4_ n5_ n6_ n7_ n8_ n9_;(try clear hb);(try clear hb2);(try clear hk);(try clear hi);(try clear ho0);obtain ⟨Ao230,co230,eo230⟩:=Kd.R_slice HO585.out;subst eo230)|((with_reducible refine gate_callee (f:=22) rfl ?_);refine goesL_ (some 71) rfl rfl Tryd.func22 (by kernel_rfl) rfl #[.slice Ao42 t567.length co42,.slice Ao230 t583.length co230] rfl (by (try simp only [List.map_toArray,List.map_cons,List.map_nil]);first|done|rfl|(simp only [List.length_drop,List.length_take];rfl)) ?_;(with_reducible refine (laws_eqStringS.calls kj17 _ _ t567 _ _ t583 false _ ?side1 ?side2 ?side3 ?side4 A79.out).mono ?_);(case side1 => repeat (first|exact (Kd.R_reads' HO_11.out).2.2|(with_reducible first|refine Kd.C_alloc ?_ _|refine Kd.C_drewN ?_ _|refine Kd.C_drew ?_)));(case side2 => exact (Kd.R_reads' HO_11.out).2.1);(case side3 => repeat (first|exact (Kd.R_reads' HO585.out).2.2|(with_reducible first|refine Kd.C_alloc ?_ _|refine Kd.C_drewN ?_ _|refine Kd.C_drew ?_)));(case side4 => exact (Kd.R_reads' HO585.out).2.1);rintro e w' ⟨rfl,⟨nd,rfl⟩⟩;refine ⟨_,rfl,?_⟩))
       go_ret
       exact ⟨by first|rfl|(simp [errW_none,errW_some] <;> rfl)|(simp [*,errW_none,errW_some] <;> rfl),by repeat (first|(with_reducible first|exact HB.out|apply below_alloc|apply pw_below_drewN|apply below_drew1|refine below_set ?_ GE550.out|refine below_set ?_ GE566.out|refine below_set ?_ GE574.out|refine below_set ?_ GE581.out)|exact HB.out)⟩

end Go.Proofs.YtgfeafcgpeclcaaDoor.X
