/- Lean functions, walks and rows for the seat YtgfeafcgpeclcaaDoor, written by a program of this repo (wip/tools/xprint.py). (Merged out of this claim's own texts.) -/
import Derived.Test.YtgfeafcgpeclcaaDoorBFnExactYoungSet2
namespace Go.Proofs.YtgfeafcgpeclcaaDoor.X
open Go.RowKit Go.Proofs.YtgfeafcgpeclcaaDoorW.PrintWords Go.Proofs.YtgfeafcgpeclcaaDoorW.PrintLast Go.Proofs.YtgfeafcgpeclcaaDoorW.PrintMore
attribute [local go_sem] max2_int min2_int max_two min_two max_three min_three max_four min_four   -- for this text's walks alone
set_option linter.unusedVariables false
set_option linter.unusedSimpArgs false

/-! ### spec_NurseryOk: function 18 -/
mutual
def spec_NurseryOk.l0 : Nat → List ByteArray → List Int → Int → Int → List Int → Option (Bool)
 | 0,_,_,_,_,_ => none
 | k + 1,x0,x5,x7,x127000,x127001 => if x7 < (x5.length : Int) then (if 0 ≤ x7 then (if 0 ≤ (rd x5 x7) then (if (rd x5 x7) < (x127001.length : Int) then (if 0 ≤ (wrap64 (Int.tdiv (rd x127001 (rd x5 x7)) 4)) then (if (wrap64 (Int.tdiv (rd x127001 (rd x5 x7)) 4)) < (x0.length : Int) then (spec_NurseryOk.l1 k x0 x5 x7 (rdOf ByteArray.empty x0 (wrap64 (Int.tdiv (rd x127001 (rd x5 x7)) 4))) 0 x127000 x127001) else (none)) else (none)) else (none)) else (none)) else (none)) else (some true)
def spec_NurseryOk.l1 : Nat → List ByteArray → List Int → Int → ByteArray → Int → Int → List Int → Option (Bool)
 | 0,_,_,_,_,_,_,_ => none
 | k + 1,x0,x5,x7,x8,x9,x127000,x127001 => if x9 < (x8.size : Int) then (if 0 ≤ x9 then (if (bt x8 x9) = 114 then (if 0 ≤ x7 then (if x7 < (x5.length : Int) then (if 0 ≤ (wrap64 ((wrap64 ((rd x5 x7) + 1)) + x9)) then (if (wrap64 ((wrap64 ((rd x5 x7) + 1)) + x9)) < (x127001.length : Int) then ((spec_l8Ref.f k x5 (rd x127001 (wrap64 ((wrap64 ((rd x5 x7) + 1)) + x9)))).bind fun t136 => (if t136 = true then (spec_NurseryOk.l1 k x0 x5 x7 x8 (wrap64 (x9 + 1)) x127000 x127001) else (some false))) else (none)) else (none)) else (none)) else (none)) else (spec_NurseryOk.l1 k x0 x5 x7 x8 (wrap64 (x9 + 1)) x127000 x127001)) else (none)) else (spec_NurseryOk.l0 k x0 x5 (wrap64 (x7 + 1)) x127000 x127001)
end
def spec_NurseryOk.f (k : Nat) (l0 : List ByteArray) (a1_0 : Int) (l1_1 : List Int) : Option (Bool) := (spec_l8Parse.f k l0 a1_0 l1_1).bind fun bt127 => (if bt127.2 = true then (spec_NurseryOk.l0 k l0 bt127.1 0 a1_0 l1_1) else (some false))
theorem spec_NurseryOk.mono_l : ∀ k, (∀ y0 y1 y2 y3 y4, LeO (spec_NurseryOk.l0 k y0 y1 y2 y3 y4) (spec_NurseryOk.l0 (k + 1) y0 y1 y2 y3 y4)) ∧ (∀ y0 y1 y2 y3 y4 y5 y6, LeO (spec_NurseryOk.l1 k y0 y1 y2 y3 y4 y5 y6) (spec_NurseryOk.l1 (k + 1) y0 y1 y2 y3 y4 y5 y6))
 | 0 => ⟨fun _ _ _ _ _ r h => by simp [spec_NurseryOk.l0] at h,fun _ _ _ _ _ _ _ r h => by simp [spec_NurseryOk.l1] at h⟩
 | k + 1 => by
  obtain ⟨ih0,ih1⟩:=spec_NurseryOk.mono_l k
  refine ⟨?_,?_⟩
  ·intro y0 y1 y2 y3 y4
   unfold spec_NurseryOk.l0
   repeat' first
   | (with_reducible exact ih0 _ _ _ _ _)
   | (with_reducible exact ih1 _ _ _ _ _ _ _)
   | (with_reducible exact spec_l8Parse.mono _ _ _ _)
   | (with_reducible exact spec_l8Ref.mono _ _ _)
   | (with_reducible exact LeO.refl _)
   | (with_reducible exact LeO.none _)
   | (with_reducible refine LeO.ite ?_ ?_)
   | (with_reducible refine LeO.bind ?_ (fun _ => ?_))
   | exact ih0 _ _ _ _ _
   | exact ih1 _ _ _ _ _ _ _
   | exact spec_l8Parse.mono _ _ _ _
   | exact spec_l8Ref.mono _ _ _
   | exact LeO.none _
   | refine LeO.ite ?_ ?_
   | refine LeO.bind ?_ (fun _ => ?_)
  ·intro y0 y1 y2 y3 y4 y5 y6
   unfold spec_NurseryOk.l1
   repeat' first
   | (with_reducible exact ih0 _ _ _ _ _)
   | (with_reducible exact ih1 _ _ _ _ _ _ _)
   | (with_reducible exact spec_l8Parse.mono _ _ _ _)
   | (with_reducible exact spec_l8Ref.mono _ _ _)
   | (with_reducible exact LeO.refl _)
   | (with_reducible exact LeO.none _)
   | (with_reducible refine LeO.ite ?_ ?_)
   | (with_reducible refine LeO.bind ?_ (fun _ => ?_))
   | exact ih0 _ _ _ _ _
   | exact ih1 _ _ _ _ _ _ _
   | exact spec_l8Parse.mono _ _ _ _
   | exact spec_l8Ref.mono _ _ _
   | exact LeO.none _
   | refine LeO.ite ?_ ?_
   | refine LeO.bind ?_ (fun _ => ?_)
theorem spec_NurseryOk.mono : ∀ a0 a1 a2 k, LeO (spec_NurseryOk.f k a0 a1 a2) (spec_NurseryOk.f (k + 1) a0 a1 a2) := by
 intro a0 a1 a2 k
 obtain ⟨ih0,ih1⟩:=spec_NurseryOk.mono_l k
 unfold spec_NurseryOk.f
 repeat' first
   | (with_reducible exact ih0 _ _ _ _ _)
   | (with_reducible exact ih1 _ _ _ _ _ _ _)
   | (with_reducible exact spec_l8Parse.mono _ _ _ _)
   | (with_reducible exact spec_l8Ref.mono _ _ _)
   | (with_reducible exact LeO.refl _)
   | (with_reducible exact LeO.none _)
   | (with_reducible refine LeO.ite ?_ ?_)
   | (with_reducible refine LeO.bind ?_ (fun _ => ?_))
   | exact ih0 _ _ _ _ _
   | exact ih1 _ _ _ _ _ _ _
   | exact spec_l8Parse.mono _ _ _ _
   | exact spec_l8Ref.mono _ _ _
   | exact LeO.none _
   | refine LeO.ite ?_ ?_
   | refine LeO.bind ?_ (fun _ => ?_)
set_option maxHeartbeats 8000000 in
set_option maxRecDepth 100000 in
theorem spec_NurseryOk.calls (k : Nat) (A0 : Option Addr) (c0 : Nat) (l0 : List ByteArray) (a1_0 : Int) (A1_1 : Option Addr) (c1_1 : Nat) (l1_1 : List Int) (r : Bool) (w : World) (hr0 : Kd.C Kd.string w A0 l0.length l0) (hc0 : l0.length ≤ c0) (hr1_1 : Kd.C (Kd.int .i64) w A1_1 l1_1.length l1_1) (hc1_1 : l1_1.length ≤ c1_1) (h : spec_NurseryOk.f k l0 a1_0 l1_1 = some r) :
  Calls Tryd.prog 18 #[.slice A0 l0.length c0,.agg #[.int .i64 a1_0,.slice A1_1 l1_1.length c1_1]] w fun e w' => e = .returned (.bool r)∧Below w.heap.size w w':=by
 have hu30:=Tryd.underlying30
 have HR0:=Aside0.mk hr0
 have HC0:=Aside0.mk hc0
 clear hr0 hc0
 have HR1_1:=Aside0.mk hr1_1
 have HC1_1:=Aside0.mk hc1_1
 clear hr1_1 hc1_1
 have HB:=Aside0.mk (Below.refl w.heap.size w)
 have H : ((spec_l8Parse.f k l0 a1_0 l1_1).bind fun bt127 => (if bt127.2 = true then (spec_NurseryOk.l0 k l0 bt127.1 0 a1_0 l1_1) else (some false))) = some r:=h
 clear h
 replace H:=Option.bind_eq_some_iff.mp H
 obtain ⟨⟨t127,t130⟩,A30,H⟩:=H
 try dsimp only at H
 have A3:=Aside0.mk A30
 clear A30
 by_cases c4 : t130 = true
 ·subst c4
  have H1:=H;rw [if_pos rfl] at H1
  clear H
  have H:=H1
  clear H1
  have H':=Aside0.mk H
  clear H
  go_enter Tryd.func18,Tryd.ntmps18
  go_wp2_with (first|((with_reducible refine gate_dst (N:=3) rfl ?_);refine box_event ?hg (N:=3) ?hd (cs:=#[.int .i64 a1_0,.slice A1_1 l1_1.length c1_1]) (t:=30) ?hr ?_;(case hd => rfl);(case hg => rfl);(case hr => first|(go_simp;done)|(go_simp;rfl));intro gb126 hg w5 hbox hb;have n0_:=Aside0.mk (below_step (by repeat (first|(with_reducible first|exact HB.out|apply below_alloc|apply pw_below_drewN|apply below_drew1)|exact HB.out)) hb);have n1_:=Aside0.mk (hbox);have n2_:=Aside0.mk ((by rw [hg];exact (below_size (by repeat (first|(with_reducible first|exact HB.out|apply below_alloc|apply pw_below_drewN|apply below_drew1)|exact HB.out))) : w.heap.size ≤ gb126));have n3_:=Aside0.mk ((by rw [hg];exact (below_size (by repeat (first|(with_reducible first|exact HB.out|apply below_alloc|apply pw_below_drewN|apply below_drew1)|exact HB.out))) : w.heap.size ≤ gb126));clear HB;have HB:=n0_;have BK126:=n1_;have GW126:=n2_;have GE126:=n3_;clear n0_ n1_ n2_ n3_;clear hb hbox hg;have hcz6_0 : w5.cell? ⟨gb126,0,none⟩ = some (.int .i64 a1_0):=(blk_cell BK126.out 0).trans rfl;have hcz6_1 : w5.cell? ⟨gb126,1,none⟩ = some (.slice A1_1 l1_1.length c1_1):=(blk_cell BK126.out 1).trans rfl;have hfz6_0:=blk_frozen BK126.out 0;have hfz6_1:=blk_frozen BK126.out 1)|(go_at_call 58;(with_reducible refine (spec_l8Parse.calls k _ _ l0 a1_0 _ _ l1_1 t127 true _ ?side1 ?side2 ?side3 ?side4 A3.out).mono ?_);(case side1 => repeat (first|exact (Kd.C_below HR0.out HB.out)|(with_reducible first|refine Kd.C_alloc ?_ _|refine Kd.C_drewN ?_ _|refine Kd.C_drew ?_)));(case side2 => exact HC0.out);(case side3 => repeat (first|exact (Kd.C_below HR1_1.out HB.out)|(with_reducible first|refine Kd.C_alloc ?_ _|refine Kd.C_drewN ?_ _|refine Kd.C_drew ?_)));(case side4 => exact HC1_1.out);rintro e w7 ⟨v128,rfl,ho0,hb⟩;have n0_:=Aside0.mk (Kd.R_lower ho0 (below_size (by repeat (first|(with_reducible first|exact HB.out|apply below_alloc|apply pw_below_drewN|apply below_drew1|refine below_set ?_ GE126.out)|exact HB.out))));have n1_:=Aside0.mk (blk_below (g:=gb126) (o:=.cells #[.int .i64 a1_0,.slice A1_1 l1_1.length c1_1] 30 (0,0)) (by (with_reducible repeat (first|refine blk_drewN ?_ _|refine blk_drew ?_|refine blk_alloc ?_ _));exact BK126.out) hb);have n2_:=Aside0.mk (below_step (by repeat (first|(with_reducible first|exact HB.out|apply below_alloc|apply pw_below_drewN|apply below_drew1|refine below_set ?_ GE126.out)|exact HB.out)) hb);clear BK126 HB;have HO129:=n0_;have BK126:=n1_;have HB:=n2_;clear n0_ n1_ n2_;(try clear hb);(try clear hb2);(try clear hk);(try clear hi);(try clear ho0)))
  repeat (go_quiet (first|((with_reducible refine gate_dst (N:=3) rfl ?_);refine box_event ?hg (N:=3) ?hd (cs:=#[.int .i64 a1_0,.slice A1_1 l1_1.length c1_1]) (t:=30) ?hr ?_;(case hd => rfl);(case hg => rfl);(case hr => first|(go_simp;done)|(go_simp;rfl));intro gb126 hg w5 hbox hb;have n0_:=Aside0.mk (below_step (by repeat (first|(with_reducible first|exact HB.out|apply below_alloc|apply pw_below_drewN|apply below_drew1)|exact HB.out)) hb);have n1_:=Aside0.mk (hbox);have n2_:=Aside0.mk ((by rw [hg];exact (below_size (by repeat (first|(with_reducible first|exact HB.out|apply below_alloc|apply pw_below_drewN|apply below_drew1)|exact HB.out))) : w.heap.size ≤ gb126));have n3_:=Aside0.mk ((by rw [hg];exact (below_size (by repeat (first|(with_reducible first|exact HB.out|apply below_alloc|apply pw_below_drewN|apply below_drew1)|exact HB.out))) : w.heap.size ≤ gb126));clear HB;have HB:=n0_;have BK126:=n1_;have GW126:=n2_;have GE126:=n3_;clear n0_ n1_ n2_ n3_;clear hb hbox hg;have hcz6_0 : w5.cell? ⟨gb126,0,none⟩ = some (.int .i64 a1_0):=(blk_cell BK126.out 0).trans rfl;have hcz6_1 : w5.cell? ⟨gb126,1,none⟩ = some (.slice A1_1 l1_1.length c1_1):=(blk_cell BK126.out 1).trans rfl;have hfz6_0:=blk_frozen BK126.out 0;have hfz6_1:=blk_frozen BK126.out 1)|(go_at_call 58;(with_reducible refine (spec_l8Parse.calls k _ _ l0 a1_0 _ _ l1_1 t127 true _ ?side1 ?side2 ?side3 ?side4 A3.out).mono ?_);(case side1 => repeat (first|exact (Kd.C_below HR0.out HB.out)|(with_reducible first|refine Kd.C_alloc ?_ _|refine Kd.C_drewN ?_ _|refine Kd.C_drew ?_)));(case side2 => exact HC0.out);(case side3 => repeat (first|exact (Kd.C_below HR1_1.out HB.out)|(with_reducible first|refine Kd.C_alloc ?_ _|refine Kd.C_drewN ?_ _|refine Kd.C_drew ?_)));(case side4 => exact HC1_1.out);rintro e w7 ⟨v128,rfl,ho0,hb⟩;have n0_:=Aside0.mk (Kd.R_lower ho0 (below_size (by repeat (first|(with_reducible first|exact HB.out|apply below_alloc|apply pw_below_drewN|apply below_drew1|refine below_set ?_ GE126.out)|exact HB.out))));have n1_:=Aside0.mk (blk_below (g:=gb126) (o:=.cells #[.int .i64 a1_0,.slice A1_1 l1_1.length c1_1] 30 (0,0)) (by (with_reducible repeat (first|refine blk_drewN ?_ _|refine blk_drew ?_|refine blk_alloc ?_ _));exact BK126.out) hb);have n2_:=Aside0.mk (below_step (by repeat (first|(with_reducible first|exact HB.out|apply below_alloc|apply pw_below_drewN|apply below_drew1|refine below_set ?_ GE126.out)|exact HB.out)) hb);clear BK126 HB;have HO129:=n0_;have BK126:=n1_;have HB:=n2_;clear n0_ n1_ n2_;(try clear hb);(try clear hb2);(try clear hk);(try clear hi);(try clear ho0)));try go_wp2_with (first|((with_reducible refine gate_dst (N:=3) rfl ?_);refine box_event ?hg (N:=3) ?hd (cs:=#[.int .i64 a1_0,.slice A1_1 l1_1.length c1_1]) (t:=30) ?hr ?_;(case hd => rfl);(case hg => rfl);(case hr => first|(go_simp;done)|(go_simp;rfl));intro gb126 hg w5 hbox hb;have n0_:=Aside0.mk (below_step (by repeat (first|(with_reducible first|exact HB.out|apply below_alloc|apply pw_below_drewN|apply below_drew1)|exact HB.out)) hb);have n1_:=Aside0.mk (hbox);have n2_:=Aside0.mk ((by rw [hg];exact (below_size (by repeat (first|(with_reducible first|exact HB.out|apply below_alloc|apply pw_below_drewN|apply below_drew1)|exact HB.out))) : w.heap.size ≤ gb126));have n3_:=Aside0.mk ((by rw [hg];exact (below_size (by repeat (first|(with_reducible first|exact HB.out|apply below_alloc|apply pw_below_drewN|apply below_drew1)|exact HB.out))) : w.heap.size ≤ gb126));clear HB;have HB:=n0_;have BK126:=n1_;have GW126:=n2_;have GE126:=n3_;clear n0_ n1_ n2_ n3_;clear hb hbox hg;have hcz6_0 : w5.cell? ⟨gb126,0,none⟩ = some (.int .i64 a1_0):=(blk_cell BK126.out 0).trans rfl;have hcz6_1 : w5.cell? ⟨gb126,1,none⟩ = some (.slice A1_1 l1_1.length c1_1):=(blk_cell BK126.out 1).trans rfl;have hfz6_0:=blk_frozen BK126.out 0;have hfz6_1:=blk_frozen BK126.out 1)|(go_at_call 58;(with_reducible refine (spec_l8Parse.calls k _ _ l0 a1_0 _ _ l1_1 t127 true _ ?side1 ?side2 ?side3 ?side4 A3.out).mono ?_);(case side1 => repeat (first|exact (Kd.C_below HR0.out HB.out)|(with_reducible first|refine Kd.C_alloc ?_ _|refine Kd.C_drewN ?_ _|refine Kd.C_drew ?_)));(case side2 => exact HC0.out);(case side3 => repeat (first|exact (Kd.C_below HR1_1.out HB.out)|(with_reducible first|refine Kd.C_alloc ?_ _|refine Kd.C_drewN ?_ _|refine Kd.C_drew ?_)));(case side4 => exact HC1_1.out);rintro e w7 ⟨v128,rfl,ho0,hb⟩;have n0_:=Aside0.mk (Kd.R_lower ho0 (below_size (by repeat (first|(with_reducible first|exact HB.out|apply below_alloc|apply pw_below_drewN|apply below_drew1|refine below_set ?_ GE126.out)|exact HB.out))));have n1_:=Aside0.mk (blk_below (g:=gb126) (o:=.cells #[.int .i64 a1_0,.slice A1_1 l1_1.length c1_1] 30 (0,0)) (by (with_reducible repeat (first|refine blk_drewN ?_ _|refine blk_drew ?_|refine blk_alloc ?_ _));exact BK126.out) hb);have n2_:=Aside0.mk (below_step (by repeat (first|(with_reducible first|exact HB.out|apply below_alloc|apply pw_below_drewN|apply below_drew1|refine below_set ?_ GE126.out)|exact HB.out)) hb);clear BK126 HB;have HO129:=n0_;have BK126:=n1_;have HB:=n2_;clear n0_ n1_ n2_;(try clear hb);(try clear hb2);(try clear hk);(try clear hi);(try clear ho0))))
  go_loopg [7] k (fun kq v7 w' => ∃ (x7_1 : Int),v7 = .int .i64 x7_1∧Aside0 (spec_NurseryOk.l0 kq l0 t127 x7_1 a1_0 l1_1 = some r)∧Aside0 (kq ≤ k)∧Aside0 (Kd.R (Kd.int .i64) 2 w' w.heap.size (fun _ => True) v128 t127)∧Aside0 (w'.heap[gb126]? = some (.cells #[.int .i64 a1_0,(.slice A1_1 l1_1.length c1_1)] 30 (0,0)))∧Aside0 (Below w.heap.size w w'))
  case atStart => exact ⟨(0),(by first|rfl|(simp;done)|(simp [*];done)),H',⟨Nat.le_refl _⟩,⟨by (with_reducible repeat (first|apply Kd.R_alloc|apply Kd.R_drewN|apply Kd.R_drew));exact HO129.out⟩,⟨by (with_reducible repeat (first|refine blk_drewN ?_ _|refine blk_drew ?_|refine blk_alloc ?_ _));exact BK126.out⟩,⟨by repeat (first|(with_reducible first|exact HB.out|apply below_alloc|apply pw_below_drewN|apply below_drew1|refine below_set ?_ GE126.out)|exact HB.out)⟩⟩
  case round =>
   clear H'
   try clear c1
   try clear p2
   try clear c4
   try clear hcz6_0
   try clear hcz6_1
   try clear hfz6_0
   try clear hfz6_1
   obtain ⟨x7_1,rfl,HA,HK1,HO_5,BK126,HB⟩:=hrel
   cases gk with
   | zero => exact absurd HA.out (by simp [spec_NurseryOk.l0])
   | succ k1 =>
    have H:=HA.out
    clear HA
    simp only [spec_NurseryOk.l0] at H
    by_cases c8 : x7_1 < (t127.length : Int)
    ·rw [if_pos c8] at H
     have c8b0 : decide (x7_1 < (t127.length : Int)) = true:=decide_eq_true c8
     clear c8
     by_cases c9 : 0 ≤ x7_1
     ·rw [if_pos c9] at H
      have c9b0 : decide (0 ≤ x7_1) = true:=decide_eq_true c9
      clear c9
      by_cases c10 : 0 ≤ (rd t127 x7_1)
      ·rw [if_pos c10] at H
       have c10b0 : decide (0 ≤ (rd t127 x7_1)) = true:=decide_eq_true c10
       clear c10
       by_cases c11 : (rd t127 x7_1) < (l1_1.length : Int)
       ·rw [if_pos c11] at H
        have c11b0 : decide ((rd t127 x7_1) < (l1_1.length : Int)) = true:=decide_eq_true c11
        clear c11
        obtain ⟨ji12,hji12⟩ : ∃ j_ : Int,(wrap64 (Int.tdiv (rd l1_1 (rd t127 x7_1)) 4)) = j_:=⟨_,rfl⟩
        replace H : (if 0 ≤ (ji12) then (if (ji12) < (l0.length : Int) then (spec_NurseryOk.l1 k1 l0 t127 x7_1 (rdOf ByteArray.empty l0 (ji12)) 0 a1_0 l1_1) else (none)) else (none)) = some r:=by first|(rw [hji12] at H;exact H)|(simp only [hji12] at H ⊢;exact H)
        have hji12w : (IntKind.i64.wrap (Int.tdiv (rd l1_1 (rd t127 x7_1)) 4)) = ji12:=(i64_w _).trans hji12
        by_cases c13 : 0 ≤ (ji12)
        ·rw [if_pos c13] at H
         have c13b0 : decide (0 ≤ (ji12)) = true:=decide_eq_true c13
         clear c13
         by_cases c14 : (ji12) < (l0.length : Int)
         ·rw [if_pos c14] at H
          have c14b0 : decide ((ji12) < (l0.length : Int)) = true:=decide_eq_true c14
          clear c14
          have H':=Aside0.mk H
          clear H
          obtain ⟨Ao15,co15,eo15⟩:=Kd.R_slice HO_5.out
          subst eo15
          have hcz16_0 : wr.cell? ⟨gb126,0,none⟩ = some (.int .i64 a1_0):=(blk_cell BK126.out 0).trans rfl
          have hcz16_1 : wr.cell? ⟨gb126,1,none⟩ = some (.slice A1_1 l1_1.length c1_1):=(blk_cell BK126.out 1).trans rfl
          have hfz16_0:=blk_frozen BK126.out 0
          have hfz16_1:=blk_frozen BK126.out 1
          have p131 : 0 ≤ (x7_1 : Int):=of_decide_eq_true (by first|(with_reducible assumption)|assumption)
          have q131 : x7_1 < (t127.length : Int):=of_decide_eq_true (by first|(with_reducible assumption)|assumption)
          obtain ⟨ad131,e131,hx131_0⟩:=Kd.at_int (Kd.R_reads' HO_5.out).2.2 x7_1 p131 q131
          cases e131
          replace p131:=eq_true p131
          replace q131:=eq_true q131
          have p132 : 0 ≤ ((rd t127 x7_1) : Int):=of_decide_eq_true (by first|(with_reducible assumption)|assumption)
          have q132 : (rd t127 x7_1) < (l1_1.length : Int):=of_decide_eq_true (by first|(with_reducible assumption)|assumption)
          obtain ⟨ad132,e132,hx132_0⟩:=Kd.at_int HR1_1.out (rd t127 x7_1) p132 q132
          cases e132
          replace hx132_0:=(HB.out.cell (World.block_lt_of_cell? w _ hx132_0)).trans hx132_0
          replace p132:=eq_true p132
          replace q132:=eq_true q132
          have p133 : 0 ≤ ((ji12) : Int):=of_decide_eq_true (by first|(with_reducible assumption)|assumption)
          have q133 : (ji12) < (l0.length : Int):=of_decide_eq_true (by first|(with_reducible assumption)|assumption)
          obtain ⟨ad133,e133,hx133_0⟩:=Kd.at_string HR0.out (ji12) p133 q133
          cases e133
          replace hx133_0:=(HB.out.cell (World.block_lt_of_cell? w _ hx133_0)).trans hx133_0
          replace p133:=eq_true p133
          replace q133:=eq_true q133
          go_wp2
          repeat (go_quiet (fail);try go_wp2)
          go_loopg [9] k1 (fun kq v9 w' => ∃ (x9_2 : Int),v9 = .int .i64 x9_2∧Aside0 (spec_NurseryOk.l1 kq l0 t127 x7_1 (rdOf ByteArray.empty l0 (ji12)) x9_2 a1_0 l1_1 = some r)∧Aside0 (kq ≤ k1)∧Aside0 (Kd.R (Kd.int .i64) 2 w' w.heap.size (fun _ => True) (.slice (some ad131) t127.length co15) t127)∧Aside0 (w'.heap[gb126]? = some (.cells #[.int .i64 a1_0,(.slice (some ad132) l1_1.length c1_1)] 30 (0,0)))∧Aside0 (Below w.heap.size w w'))
          case atStart => exact ⟨(0),(by first|rfl|(simp;done)|(simp [*];done)),H',⟨Nat.le_refl _⟩,⟨by (with_reducible repeat (first|apply Kd.R_alloc|apply Kd.R_drewN|apply Kd.R_drew));exact HO_5.out⟩,⟨by (with_reducible repeat (first|refine blk_drewN ?_ _|refine blk_drew ?_|refine blk_alloc ?_ _));exact BK126.out⟩,⟨by repeat (first|(with_reducible first|exact HB.out|apply below_alloc|apply pw_below_drewN|apply below_drew1|refine below_set ?_ GE126.out)|exact HB.out)⟩⟩
          case round =>
           clear H'
           try clear c1
           try clear p1
           try clear q1
           try clear hx1
           try clear p2
           try clear c4
           try clear p6
           try clear c8
           try clear c8b0
           try clear c9
           try clear c9b0
           try clear c10
           try clear c10b0
           try clear c11
           try clear c11b0
           try clear c13
           try clear c13b0
           try clear p13
           try clear q13
           try clear hx13
           try clear c14
           try clear c14b0
           try clear hcz16_0
           try clear hcz16_1
           try clear hcz6_0
           try clear hcz6_1
           try clear hfz16_0
           try clear hfz16_1
           try clear hfz6_0
           try clear hfz6_1
           try clear hx131_0
           try clear hx132_0
           try clear hx133_0
           try clear p131
           try clear p132
           try clear p133
           try clear p2
           try clear q131
           try clear q132
           try clear q133
           obtain ⟨x9_2,rfl,HA,HK2,HO_5,BK126,HB⟩:=hrel
           cases gk with
           | zero => exact absurd HA.out (by simp [spec_NurseryOk.l1])
           | succ k2 =>
            have H:=HA.out
            clear HA
            simp only [spec_NurseryOk.l1] at H
            by_cases c17 : x9_2 < ((rdOf ByteArray.empty l0 (ji12)).size : Int)
            ·rw [if_pos c17] at H
             have c17b0 : decide (x9_2 < ((rdOf ByteArray.empty l0 (ji12)).size : Int)) = true:=decide_eq_true c17
             clear c17
             by_cases c18 : 0 ≤ x9_2
             ·rw [if_pos c18] at H
              have c18b0 : decide (0 ≤ x9_2) = true:=decide_eq_true c18
              clear c18
              by_cases c20 : (bt (rdOf ByteArray.empty l0 (ji12)) x9_2) = 114
              ·rw [if_pos c20] at H
               have c20b0 : ((bt (rdOf ByteArray.empty l0 (ji12)) x9_2) == 114) = true:=beq_iff_eq.mpr c20
               have c20b1 : ((bt (rdOf ByteArray.empty l0 (ji12)) x9_2) != 114) = false:=bne_eq_false_iff_eq.mpr c20
               clear c20
               by_cases c21 : 0 ≤ x7_1
               ·rw [if_pos c21] at H
                have c21b0 : decide (0 ≤ x7_1) = true:=decide_eq_true c21
                clear c21
                by_cases c22 : x7_1 < (t127.length : Int)
                ·rw [if_pos c22] at H
                 have c22b0 : decide (x7_1 < (t127.length : Int)) = true:=decide_eq_true c22
                 clear c22
                 obtain ⟨ji23,hji23⟩ : ∃ j_ : Int,(wrap64 ((wrap64 ((rd t127 x7_1) + 1)) + x9_2)) = j_:=⟨_,rfl⟩
                 replace H : (if 0 ≤ (ji23) then (if (ji23) < (l1_1.length : Int) then ((spec_l8Ref.f k2 t127 (rd l1_1 (ji23))).bind fun t136 => (if t136 = true then (spec_NurseryOk.l1 k2 l0 t127 x7_1 (rdOf ByteArray.empty l0 (ji12)) (wrap64 (x9_2 + 1)) a1_0 l1_1) else (some false))) else (none)) else (none)) = some r:=by first|(rw [hji23] at H;exact H)|(simp only [hji23] at H ⊢;exact H)
                 have hji23w : (IntKind.i64.wrap ((wrap64 ((rd t127 x7_1) + 1)) + x9_2)) = ji23:=(i64_w _).trans hji23
                 by_cases c24 : 0 ≤ (ji23)
                 ·rw [if_pos c24] at H
                  have c24b0 : decide (0 ≤ (ji23)) = true:=decide_eq_true c24
                  clear c24
                  by_cases c25 : (ji23) < (l1_1.length : Int)
                  ·rw [if_pos c25] at H
                   have c25b0 : decide ((ji23) < (l1_1.length : Int)) = true:=decide_eq_true c25
                   clear c25
                   replace H:=Option.bind_eq_some_iff.mp H
                   obtain ⟨t136,A260,H⟩:=H
                   try dsimp only at H
                   have A26:=Aside0.mk A260
                   clear A260
                   by_cases c27 : t136 = true
                   ·subst c27
                    have H1:=H;rw [if_pos rfl] at H1
                    clear H
                    have H:=H1
                    clear H1
                    have H':=Aside0.mk H
                    clear H
                    have p19 : 0 ≤ (x9_2 : Int):=of_decide_eq_true (by first|(with_reducible assumption)|assumption)
                    have q19 : x9_2 < ((rdOf ByteArray.empty l0 (ji12)).size : Int):=of_decide_eq_true (by first|(with_reducible assumption)|assumption)
                    have hx19:=bt_at (rdOf ByteArray.empty l0 (ji12)) x9_2
                    replace p19:=eq_true p19
                    replace q19:=eq_true q19
                    have hcz28_0 : wr.cell? ⟨gb126,0,none⟩ = some (.int .i64 a1_0):=(blk_cell BK126.out 0).trans rfl
                    have hcz28_1 : wr.cell? ⟨gb126,1,none⟩ = some (.slice (some ad132) l1_1.length c1_1):=(blk_cell BK126.out 1).trans rfl
                    have hfz28_0:=blk_frozen BK126.out 0
                    have hfz28_1:=blk_frozen BK126.out 1
                    have p134 : 0 ≤ (x7_1 : Int):=of_decide_eq_true (by first|(with_reducible assumption)|assumption)
                    have q134 : x7_1 < (t127.length : Int):=of_decide_eq_true (by first|(with_reducible assumption)|assumption)
                    obtain ⟨ad134,e134,hx134_0⟩:=Kd.at_int (Kd.R_reads' HO_5.out).2.2 x7_1 p134 q134
                    obtain rfl : ad131 = ad134:=(by injection e134)
                    replace p134:=eq_true p134
                    replace q134:=eq_true q134
                    have p135 : 0 ≤ ((ji23) : Int):=of_decide_eq_true (by first|(with_reducible assumption)|assumption)
                    have q135 : (ji23) < (l1_1.length : Int):=of_decide_eq_true (by first|(with_reducible assumption)|assumption)
                    obtain ⟨ad135,e135,hx135_0⟩:=Kd.at_int HR1_1.out (ji23) p135 q135
                    obtain rfl : ad132 = ad135:=(by injection e135)
                    replace hx135_0:=(HB.out.cell (World.block_lt_of_cell? w _ hx135_0)).trans hx135_0
                    replace p135:=eq_true p135
                    replace q135:=eq_true q135
                    go_wp2_with (first|(go_at_call 59;(with_reducible refine (spec_l8Ref.calls k2 _ _ t127 (rd l1_1 (ji23)) true _ ?side1 ?side2 A26.out).mono ?_);(case side1 => repeat (first|exact (Kd.R_reads' HO_5.out).2.2|(with_reducible first|refine Kd.C_alloc ?_ _|refine Kd.C_drewN ?_ _|refine Kd.C_drew ?_)));(case side2 => exact (Kd.R_reads' HO_5.out).2.1);rintro e w' ⟨rfl,⟨nd,rfl⟩⟩;(try first|exact ⟨rfl,_,World.drewN_drewN _ _ _⟩|exact ⟨rfl,_,Eq.trans (World.drewN_drewN _ _ _) (congrArg (World.drewN _) (Nat.add_assoc _ _ _))⟩)))
                    repeat (go_quiet (first|(go_at_call 59;(with_reducible refine (spec_l8Ref.calls k2 _ _ t127 (rd l1_1 (ji23)) true _ ?side1 ?side2 A26.out).mono ?_);(case side1 => repeat (first|exact (Kd.R_reads' HO_5.out).2.2|(with_reducible first|refine Kd.C_alloc ?_ _|refine Kd.C_drewN ?_ _|refine Kd.C_drew ?_)));(case side2 => exact (Kd.R_reads' HO_5.out).2.1);rintro e w' ⟨rfl,⟨nd,rfl⟩⟩;(try first|exact ⟨rfl,_,World.drewN_drewN _ _ _⟩|exact ⟨rfl,_,Eq.trans (World.drewN_drewN _ _ _) (congrArg (World.drewN _) (Nat.add_assoc _ _ _))⟩)));try go_wp2_with (first|(go_at_call 59;(with_reducible refine (spec_l8Ref.calls k2 _ _ t127 (rd l1_1 (ji23)) true _ ?side1 ?side2 A26.out).mono ?_);(case side1 => repeat (first|exact (Kd.R_reads' HO_5.out).2.2|(with_reducible first|refine Kd.C_alloc ?_ _|refine Kd.C_drewN ?_ _|refine Kd.C_drew ?_)));(case side2 => exact (Kd.R_reads' HO_5.out).2.1);rintro e w' ⟨rfl,⟨nd,rfl⟩⟩;(try first|exact ⟨rfl,_,World.drewN_drewN _ _ _⟩|exact ⟨rfl,_,Eq.trans (World.drewN_drewN _ _ _) (congrArg (World.drewN _) (Nat.add_assoc _ _ _))⟩))))
                    go_roundg k2
                    case measure => have:=HK1.out;have:=HK2.out;omega
                    case rel => exact ⟨(wrap64 (x9_2 + 1)),(by first|rfl|(simp;done)|(simp [*];done)),H',⟨by have:=HK1.out;have:=HK2.out;omega⟩,⟨by (with_reducible repeat (first|apply Kd.R_alloc|apply Kd.R_drewN|apply Kd.R_drew));exact HO_5.out⟩,⟨by (with_reducible repeat (first|refine blk_drewN ?_ _|refine blk_drew ?_|refine blk_alloc ?_ _));exact BK126.out⟩,⟨by repeat (first|(with_reducible first|exact HB.out|apply below_alloc|apply pw_below_drewN|apply below_drew1|refine below_set ?_ GE126.out)|exact HB.out)⟩⟩
                   ·replace c27:=Bool.eq_false_iff.mpr c27
                    subst c27
                    have H1 : (some false) = some r:=by rw [if_neg (show ¬ (false = true) by decide)] at H;exact H
                    clear H
                    have H:=H1
                    clear H1
                    obtain rfl:=Option.some.inj H
                    have p19 : 0 ≤ (x9_2 : Int):=of_decide_eq_true (by first|(with_reducible assumption)|assumption)
                    have q19 : x9_2 < ((rdOf ByteArray.empty l0 (ji12)).size : Int):=of_decide_eq_true (by first|(with_reducible assumption)|assumption)
                    have hx19:=bt_at (rdOf ByteArray.empty l0 (ji12)) x9_2
                    replace p19:=eq_true p19
                    replace q19:=eq_true q19
                    have hcz29_0 : wr.cell? ⟨gb126,0,none⟩ = some (.int .i64 a1_0):=(blk_cell BK126.out 0).trans rfl
                    have hcz29_1 : wr.cell? ⟨gb126,1,none⟩ = some (.slice (some ad132) l1_1.length c1_1):=(blk_cell BK126.out 1).trans rfl
                    have hfz29_0:=blk_frozen BK126.out 0
                    have hfz29_1:=blk_frozen BK126.out 1
                    have p134 : 0 ≤ (x7_1 : Int):=of_decide_eq_true (by first|(with_reducible assumption)|assumption)
                    have q134 : x7_1 < (t127.length : Int):=of_decide_eq_true (by first|(with_reducible assumption)|assumption)
                    obtain ⟨ad134,e134,hx134_0⟩:=Kd.at_int (Kd.R_reads' HO_5.out).2.2 x7_1 p134 q134
                    obtain rfl : ad131 = ad134:=(by injection e134)
                    replace p134:=eq_true p134
                    replace q134:=eq_true q134
                    have p135 : 0 ≤ ((ji23) : Int):=of_decide_eq_true (by first|(with_reducible assumption)|assumption)
                    have q135 : (ji23) < (l1_1.length : Int):=of_decide_eq_true (by first|(with_reducible assumption)|assumption)
                    obtain ⟨ad135,e135,hx135_0⟩:=Kd.at_int HR1_1.out (ji23) p135 q135
                    obtain rfl : ad132 = ad135:=(by injection e135)
                    replace hx135_0:=(HB.out.cell (World.block_lt_of_cell? w _ hx135_0)).trans hx135_0
                    replace p135:=eq_true p135
                    replace q135:=eq_true q135
                    go_wp2_with (first|(go_at_call 59;(with_reducible refine (spec_l8Ref.calls k2 _ _ t127 (rd l1_1 (ji23)) false _ ?side1 ?side2 A26.out).mono ?_);(case side1 => repeat (first|exact (Kd.R_reads' HO_5.out).2.2|(with_reducible first|refine Kd.C_alloc ?_ _|refine Kd.C_drewN ?_ _|refine Kd.C_drew ?_)));(case side2 => exact (Kd.R_reads' HO_5.out).2.1);rintro e w' ⟨rfl,⟨nd,rfl⟩⟩;(try first|exact ⟨rfl,_,World.drewN_drewN _ _ _⟩|exact ⟨rfl,_,Eq.trans (World.drewN_drewN _ _ _) (congrArg (World.drewN _) (Nat.add_assoc _ _ _))⟩)))
                    repeat (go_quiet (first|(go_at_call 59;(with_reducible refine (spec_l8Ref.calls k2 _ _ t127 (rd l1_1 (ji23)) false _ ?side1 ?side2 A26.out).mono ?_);(case side1 => repeat (first|exact (Kd.R_reads' HO_5.out).2.2|(with_reducible first|refine Kd.C_alloc ?_ _|refine Kd.C_drewN ?_ _|refine Kd.C_drew ?_)));(case side2 => exact (Kd.R_reads' HO_5.out).2.1);rintro e w' ⟨rfl,⟨nd,rfl⟩⟩;(try first|exact ⟨rfl,_,World.drewN_drewN _ _ _⟩|exact ⟨rfl,_,Eq.trans (World.drewN_drewN _ _ _) (congrArg (World.drewN _) (Nat.add_assoc _ _ _))⟩)));try go_wp2_with (first|(go_at_call 59;(with_reducible refine (spec_l8Ref.calls k2 _ _ t127 (rd l1_1 (ji23)) false _ ?side1 ?side2 A26.out).mono ?_);(case side1 => repeat (first|exact (Kd.R_reads' HO_5.out).2.2|(with_reducible first|refine Kd.C_alloc ?_ _|refine Kd.C_drewN ?_ _|refine Kd.C_drew ?_)));(case side2 => exact (Kd.R_reads' HO_5.out).2.1);rintro e w' ⟨rfl,⟨nd,rfl⟩⟩;(try first|exact ⟨rfl,_,World.drewN_drewN _ _ _⟩|exact ⟨rfl,_,Eq.trans (World.drewN_drewN _ _ _) (congrArg (World.drewN _) (Nat.add_assoc _ _ _))⟩))))
                    go_ret
                    exact ⟨by first|rfl|(simp [errW_none,errW_some] <;> rfl)|(simp only [← hji12,← hji23];first|rfl|(simp [errW_none,errW_some] <;> rfl))|(simp [*,errW_none,errW_some] <;> rfl),by repeat (first|(with_reducible first|exact HB.out|apply below_alloc|apply pw_below_drewN|apply below_drew1|refine below_set ?_ GE126.out)|exact HB.out)⟩
                  ·rw [if_neg c25] at H
                   exact absurd H (by simp)
                 ·rw [if_neg c24] at H
                  exact absurd H (by simp)
                ·rw [if_neg c22] at H
                 exact absurd H (by simp)
               ·rw [if_neg c21] at H
                exact absurd H (by simp)
              ·rw [if_neg c20] at H
               have c20b0 : ((bt (rdOf ByteArray.empty l0 (ji12)) x9_2) == 114) = false:=beq_eq_false_iff_ne.mpr c20
               have c20b1 : ((bt (rdOf ByteArray.empty l0 (ji12)) x9_2) != 114) = true:=bne_iff_ne.mpr c20
               have H':=Aside0.mk H
               clear H
               have p19 : 0 ≤ (x9_2 : Int):=of_decide_eq_true (by first|(with_reducible assumption)|assumption)
               have q19 : x9_2 < ((rdOf ByteArray.empty l0 (ji12)).size : Int):=of_decide_eq_true (by first|(with_reducible assumption)|assumption)
               have hx19:=bt_at (rdOf ByteArray.empty l0 (ji12)) x9_2
               replace p19:=eq_true p19
               replace q19:=eq_true q19
               go_wp2
               repeat (go_quiet (fail);try go_wp2)
               go_roundg k2
               case measure => have:=HK1.out;have:=HK2.out;omega
               case rel => exact ⟨(wrap64 (x9_2 + 1)),(by first|rfl|(simp;done)|(simp [*];done)),H',⟨by have:=HK1.out;have:=HK2.out;omega⟩,⟨by (with_reducible repeat (first|apply Kd.R_alloc|apply Kd.R_drewN|apply Kd.R_drew));exact HO_5.out⟩,⟨by (with_reducible repeat (first|refine blk_drewN ?_ _|refine blk_drew ?_|refine blk_alloc ?_ _));exact BK126.out⟩,⟨by repeat (first|(with_reducible first|exact HB.out|apply below_alloc|apply pw_below_drewN|apply below_drew1|refine below_set ?_ GE126.out)|exact HB.out)⟩⟩
             ·rw [if_neg c18] at H
              exact absurd H (by simp)
            ·rw [if_neg c17] at H
             have c17b0 : decide (x9_2 < ((rdOf ByteArray.empty l0 (ji12)).size : Int)) = false:=decide_eq_false c17
             clear c17
             have H':=Aside0.mk H
             clear H
             go_wp2
             repeat (go_quiet (fail);try go_wp2)
             go_roundg k2
             case measure => have:=HK1.out;have:=HK2.out;omega
             case rel => exact ⟨(wrap64 (x7_1 + 1)),(by first|rfl|(simp;done)|(simp [*];done)),H',⟨by have:=HK1.out;have:=HK2.out;omega⟩,⟨by (with_reducible repeat (first|apply Kd.R_alloc|apply Kd.R_drewN|apply Kd.R_drew));exact HO_5.out⟩,⟨by (with_reducible repeat (first|refine blk_drewN ?_ _|refine blk_drew ?_|refine blk_alloc ?_ _));exact BK126.out⟩,⟨by repeat (first|(with_reducible first|exact HB.out|apply below_alloc|apply pw_below_drewN|apply below_drew1|refine below_set ?_ GE126.out)|exact HB.out)⟩⟩
         ·rw [if_neg c14] at H
          exact absurd H (by simp)
        ·rw [if_neg c13] at H
         exact absurd H (by simp)
       ·rw [if_neg c11] at H
        exact absurd H (by simp)
      ·rw [if_neg c10] at H
       exact absurd H (by simp)
     ·rw [if_neg c9] at H
      exact absurd H (by simp)
    ·rw [if_neg c8] at H
     have c8b0 : decide (x7_1 < (t127.length : Int)) = false:=decide_eq_false c8
     clear c8
     obtain rfl:=Option.some.inj H
     obtain ⟨Ao30,co30,eo30⟩:=Kd.R_slice HO_5.out
     subst eo30
     go_wp2
     repeat (go_quiet (fail);try go_wp2)
     go_ret
     exact ⟨by first|rfl|(simp [errW_none,errW_some] <;> rfl)|(simp [*,errW_none,errW_some] <;> rfl),by repeat (first|(with_reducible first|exact HB.out|apply below_alloc|apply pw_below_drewN|apply below_drew1|refine below_set ?_ GE126.out)|exact HB.out)⟩
 ·replace c4:=Bool.eq_false_iff.mpr c4
  subst c4
  have H1 : (some false) = some r:=by rw [if_neg (show ¬ (false = true) by decide)] at H;exact H
  clear H
  have H:=H1
  clear H1
  obtain rfl:=Option.some.inj H
  go_enter Tryd.func18,Tryd.ntmps18
  go_wp2_with (first|((with_reducible refine gate_dst (N:=3) rfl ?_);refine box_event ?hg (N:=3) ?hd (cs:=#[.int .i64 a1_0,.slice A1_1 l1_1.length c1_1]) (t:=30) ?hr ?_;(case hd => rfl);(case hg => rfl);(case hr => first|(go_simp;done)|(go_simp;rfl));intro gb126 hg w31 hbox hb;have n0_:=Aside0.mk (below_step (by repeat (first|(with_reducible first|exact HB.out|apply below_alloc|apply pw_below_drewN|apply below_drew1)|exact HB.out)) hb);have n1_:=Aside0.mk (hbox);have n2_:=Aside0.mk ((by rw [hg];exact (below_size (by repeat (first|(with_reducible first|exact HB.out|apply below_alloc|apply pw_below_drewN|apply below_drew1)|exact HB.out))) : w.heap.size ≤ gb126));have n3_:=Aside0.mk ((by rw [hg];exact (below_size (by repeat (first|(with_reducible first|exact HB.out|apply below_alloc|apply pw_below_drewN|apply below_drew1)|exact HB.out))) : w.heap.size ≤ gb126));clear HB;have HB:=n0_;have BK126:=n1_;have GW126:=n2_;have GE126:=n3_;clear n0_ n1_ n2_ n3_;clear hb hbox hg;have hcz32_0 : w31.cell? ⟨gb126,0,none⟩ = some (.int .i64 a1_0):=(blk_cell BK126.out 0).trans rfl;have hcz32_1 : w31.cell? ⟨gb126,1,none⟩ = some (.slice A1_1 l1_1.length c1_1):=(blk_cell BK126.out 1).trans rfl;have hfz32_0:=blk_frozen BK126.out 0;have hfz32_1:=blk_frozen BK126.out 1)|(go_at_call 58;(with_reducible refine (spec_l8Parse.calls k _ _ l0 a1_0 _ _ l1_1 t127 false _ ?side1 ?side2 ?side3 ?side4 A3.out).mono ?_);(case side1 => repeat (first|exact (Kd.C_below HR0.out HB.out)|(with_reducible first|refine Kd.C_alloc ?_ _|refine Kd.C_drewN ?_ _|refine Kd.C_drew ?_)));(case side2 => exact HC0.out);(case side3 => repeat (first|exact (Kd.C_below HR1_1.out HB.out)|(with_reducible first|refine Kd.C_alloc ?_ _|refine Kd.C_drewN ?_ _|refine Kd.C_drew ?_)));(case side4 => exact HC1_1.out);rintro e w33 ⟨v128,rfl,ho0,hb⟩;have n0_:=Aside0.mk (Kd.R_lower ho0 (below_size (by repeat (first|(with_reducible first|exact HB.out|apply below_alloc|apply pw_below_drewN|apply below_drew1|refine below_set ?_ GE126.out)|exact HB.out))));have n1_:=Aside0.mk (blk_below (g:=gb126) (o:=.cells #[.int .i64 a1_0,.slice A1_1 l1_1.length c1_1] 30 (0,0)) (by (with_reducible repeat (first|refine blk_drewN ?_ _|refine blk_drew ?_|refine blk_alloc ?_ _));exact BK126.out) hb);have n2_:=Aside0.mk (below_step (by repeat (first|(with_reducible first|exact HB.out|apply below_alloc|apply pw_below_drewN|apply below_drew1|refine below_set ?_ GE126.out)|exact HB.out)) hb);clear BK126 HB;have HO129:=n0_;have BK126:=n1_;have HB:=n2_;clear n0_ n1_ n2_;(try clear hb);(try clear hb2);(try clear hk);(try clear hi);(try clear ho0)))
  repeat (go_quiet (first|((with_reducible refine gate_dst (N:=3) rfl ?_);refine box_event ?hg (N:=3) ?hd (cs:=#[.int .i64 a1_0,.slice A1_1 l1_1.length c1_1]) (t:=30) ?hr ?_;(case hd => rfl);(case hg => rfl);(case hr => first|(go_simp;done)|(go_simp;rfl));intro gb126 hg w31 hbox hb;have n0_:=Aside0.mk (below_step (by repeat (first|(with_reducible first|exact HB.out|apply below_alloc|apply pw_below_drewN|apply below_drew1)|exact HB.out)) hb);have n1_:=Aside0.mk (hbox);have n2_:=Aside0.mk ((by rw [hg];exact (below_size (by repeat (first|(with_reducible first|exact HB.out|apply below_alloc|apply pw_below_drewN|apply below_drew1)|exact HB.out))) : w.heap.size ≤ gb126));have n3_:=Aside0.mk ((by rw [hg];exact (below_size (by repeat (first|(with_reducible first|exact HB.out|apply below_alloc|apply pw_below_drewN|apply below_drew1)|exact HB.out))) : w.heap.size ≤ gb126));clear HB;have HB:=n0_;have BK126:=n1_;have GW126:=n2_;have GE126:=n3_;clear n0_ n1_ n2_ n3_;clear hb hbox hg;have hcz32_0 : w31.cell? ⟨gb126,0,none⟩ = some (.int .i64 a1_0):=(blk_cell BK126.out 0).trans rfl;have hcz32_1 : w31.cell? ⟨gb126,1,none⟩ = some (.slice A1_1 l1_1.length c1_1):=(blk_cell BK126.out 1).trans rfl;have hfz32_0:=blk_frozen BK126.out 0;have hfz32_1:=blk_frozen BK126.out 1)|(go_at_call 58;(with_reducible refine (spec_l8Parse.calls k _ _ l0 a1_0 _ _ l1_1 t127 false _ ?side1 ?side2 ?side3 ?side4 A3.out).mono ?_);(case side1 => repeat (first|exact (Kd.C_below HR0.out HB.out)|(with_reducible first|refine Kd.C_alloc ?_ _|refine Kd.C_drewN ?_ _|refine Kd.C_drew ?_)));(case side2 => exact HC0.out);(case side3 => repeat (first|exact (Kd.C_below HR1_1.out HB.out)|(with_reducible first|refine Kd.C_alloc ?_ _|refine Kd.C_drewN ?_ _|refine Kd.C_drew ?_)));(case side4 => exact HC1_1.out);rintro e w33 ⟨v128,rfl,ho0,hb⟩;have n0_:=Aside0.mk (Kd.R_lower ho0 (below_size (by repeat (first|(with_reducible first|exact HB.out|apply below_alloc|apply pw_below_drewN|apply below_drew1|refine below_set ?_ GE126.out)|exact HB.out))));have n1_:=Aside0.mk (blk_below (g:=gb126) (o:=.cells #[.int .i64 a1_0,.slice A1_1 l1_1.length c1_1] 30 (0,0)) (by (with_reducible repeat (first|refine blk_drewN ?_ _|refine blk_drew ?_|refine blk_alloc ?_ _));exact BK126.out) hb);have n2_:=Aside0.mk (below_step (by repeat (first|(with_reducible first|exact HB.out|apply below_alloc|apply pw_below_drewN|apply below_drew1|refine below_set ?_ GE126.out)|exact HB.out)) hb);clear BK126 HB;have HO129:=n0_;have BK126:=n1_;have HB:=n2_;clear n0_ n1_ n2_;(try clear hb);(try clear hb2);(try clear hk);(try clear hi);(try clear ho0)));try go_wp2_with (first|((with_reducible refine gate_dst (N:=3) rfl ?_);refine box_event ?hg (N:=3) ?hd (cs:=#[.int .i64 a1_0,.slice A1_1 l1_1.length c1_1]) (t:=30) ?hr ?_;(case hd => rfl);(case hg => rfl);(case hr => first|(go_simp;done)|(go_simp;rfl));intro gb126 hg w31 hbox hb;have n0_:=Aside0.mk (below_step (by repeat (first|(with_reducible first|exact HB.out|apply below_alloc|apply pw_below_drewN|apply below_drew1)|exact HB.out)) hb);have n1_:=Aside0.mk (hbox);have n2_:=Aside0.mk ((by rw [hg];exact (below_size (by repeat (first|(with_reducible first|exact HB.out|apply below_alloc|apply pw_below_drewN|apply below_drew1)|exact HB.out))) : w.heap.size ≤ gb126));have n3_:=Aside0.mk ((by rw [hg];exact (below_size (by repeat (first|(with_reducible first|exact HB.out|apply below_alloc|apply pw_below_drewN|apply below_drew1)|exact HB.out))) : w.heap.size ≤ gb126));clear HB;have HB:=n0_;have BK126:=n1_;have GW126:=n2_;have GE126:=n3_;clear n0_ n1_ n2_ n3_;clear hb hbox hg;have hcz32_0 : w31.cell? ⟨gb126,0,none⟩ = some (.int .i64 a1_0):=(blk_cell BK126.out 0).trans rfl;have hcz32_1 : w31.cell? ⟨gb126,1,none⟩ = some (.slice A1_1 l1_1.length c1_1):=(blk_cell BK126.out 1).trans rfl;have hfz32_0:=blk_frozen BK126.out 0;have hfz32_1:=blk_frozen BK126.out 1)|(go_at_call 58;(with_reducible refine (spec_l8Parse.calls k _ _ l0 a1_0 _ _ l1_1 t127 false _ ?side1 ?side2 ?side3 ?side4 A3.out).mono ?_);(case side1 => repeat (first|exact (Kd.C_below HR0.out HB.out)|(with_reducible first|refine Kd.C_alloc ?_ _|refine Kd.C_drewN ?_ _|refine Kd.C_drew ?_)));(case side2 => exact HC0.out);(case side3 => repeat (first|exact (Kd.C_below HR1_1.out HB.out)|(with_reducible first|refine Kd.C_alloc ?_ _|refine Kd.C_drewN ?_ _|refine Kd.C_drew ?_)));(case side4 => exact HC1_1.out);rintro e w33 ⟨v128,rfl,ho0,hb⟩;have n0_:=Aside0.mk (Kd.R_lower ho0 (below_size (by repeat (first|(with_reducible first|exact HB.out|apply below_alloc|apply pw_below_drewN|apply below_drew1|refine below_set ?_ GE126.out)|exact HB.out))));have n1_:=Aside0.mk (blk_below (g:=gb126) (o:=.cells #[.int .i64 a1_0,.slice A1_1 l1_1.length c1_1] 30 (0,0)) (by (with_reducible repeat (first|refine blk_drewN ?_ _|refine blk_drew ?_|refine blk_alloc ?_ _));exact BK126.out) hb);have n2_:=Aside0.mk (below_step (by repeat (first|(with_reducible first|exact HB.out|apply below_alloc|apply pw_below_drewN|apply below_drew1|refine below_set ?_ GE126.out)|exact HB.out)) hb);clear BK126 HB;have HO129:=n0_;have BK126:=n1_;have HB:=n2_;clear n0_ n1_ n2_;(try clear hb);(try clear hb2);(try clear hk);(try clear hi);(try clear ho0))))
  go_ret
  exact ⟨by first|rfl|(simp [errW_none,errW_some] <;> rfl)|(simp [*,errW_none,errW_some] <;> rfl),by repeat (first|(with_reducible first|exact HB.out|apply below_alloc|apply pw_below_drewN|apply below_drew1|refine below_set ?_ GE126.out)|exact HB.out)⟩

end Go.Proofs.YtgfeafcgpeclcaaDoor.X
namespace Go.Proofs.YtgfeafcgpeclcaaDoor.X
open Go.RowKit Go.Proofs.YtgfeafcgpeclcaaDoorW.PrintWords Go.Proofs.YtgfeafcgpeclcaaDoorW.PrintLast Go.Proofs.YtgfeafcgpeclcaaDoorW.PrintMore
attribute [local go_sem] max2_int min2_int max_two min_two max_three min_three max_four min_four   -- for this text's walks alone
set_option linter.unusedVariables false
set_option linter.unusedSimpArgs false

/-! ### spec_Starts: function 24 -/
def spec_Starts.f (k : Nat) (l0 : List ByteArray) (a1_0 : Int) (l1_1 : List Int) : Option (List Int) := (spec_NurseryOk.f k l0 a1_0 l1_1).bind fun t239 => (if t239 = true then ((spec_l8Parse.f k l0 a1_0 l1_1).bind fun bt240 => (some bt240.1)) else (some ([] : List Int)))
theorem spec_Starts.mono : ∀ a0 a1 a2 k, LeO (spec_Starts.f k a0 a1 a2) (spec_Starts.f (k + 1) a0 a1 a2) := by
 intro a0 a1 a2 k
 unfold spec_Starts.f
 repeat' first
   | (with_reducible exact spec_NurseryOk.mono _ _ _ _)
   | (with_reducible exact spec_l8Parse.mono _ _ _ _)
   | (with_reducible exact LeO.refl _)
   | (with_reducible exact LeO.none _)
   | (with_reducible refine LeO.ite ?_ ?_)
   | (with_reducible refine LeO.bind ?_ (fun _ => ?_))
   | exact spec_NurseryOk.mono _ _ _ _
   | exact spec_l8Parse.mono _ _ _ _
   | exact LeO.none _
   | refine LeO.ite ?_ ?_
   | refine LeO.bind ?_ (fun _ => ?_)
set_option maxHeartbeats 8000000 in
set_option maxRecDepth 100000 in
theorem spec_Starts.calls (k : Nat) (A0 : Option Addr) (c0 : Nat) (l0 : List ByteArray) (a1_0 : Int) (A1_1 : Option Addr) (c1_1 : Nat) (l1_1 : List Int) (r : List Int) (w : World) (hr0 : Kd.C Kd.string w A0 l0.length l0) (hc0 : l0.length ≤ c0) (hr1_1 : Kd.C (Kd.int .i64) w A1_1 l1_1.length l1_1) (hc1_1 : l1_1.length ≤ c1_1) (h : spec_Starts.f k l0 a1_0 l1_1 = some r) :
  Calls Tryd.prog 24 #[.slice A0 l0.length c0,.agg #[.int .i64 a1_0,.slice A1_1 l1_1.length c1_1]] w fun e w' => ∃ v0_ : Value,e = .returned (v0_)∧Kd.R (Kd.int .i64) 2 w' w.heap.size (fun _ => True) v0_ r∧Below w.heap.size w w':=by
 have hu30:=Tryd.underlying30
 have HR0:=Aside0.mk hr0
 have HC0:=Aside0.mk hc0
 clear hr0 hc0
 have HR1_1:=Aside0.mk hr1_1
 have HC1_1:=Aside0.mk hc1_1
 clear hr1_1 hc1_1
 have HB:=Aside0.mk (Below.refl w.heap.size w)
 have H : ((spec_NurseryOk.f k l0 a1_0 l1_1).bind fun t239 => (if t239 = true then ((spec_l8Parse.f k l0 a1_0 l1_1).bind fun bt240 => (some bt240.1)) else (some ([] : List Int)))) = some r:=h
 clear h
 replace H:=Option.bind_eq_some_iff.mp H
 obtain ⟨t239,A30,H⟩:=H
 try dsimp only at H
 have A3:=Aside0.mk A30
 clear A30
 by_cases c4 : t239 = true
 ·subst c4
  have H1:=H;rw [if_pos rfl] at H1
  clear H
  have H:=H1
  clear H1
  replace H:=Option.bind_eq_some_iff.mp H
  obtain ⟨⟨t240,t243⟩,A50,H⟩:=H
  try dsimp only at H
  have A5:=Aside0.mk A50
  clear A50
  obtain rfl:=Option.some.inj H
  go_enter Tryd.func24,Tryd.ntmps24
  go_wp2_with (first|((with_reducible refine gate_dst (N:=3) rfl ?_);refine box_event ?hg (N:=3) ?hd (cs:=#[.int .i64 a1_0,.slice A1_1 l1_1.length c1_1]) (t:=30) ?hr ?_;(case hd => rfl);(case hg => rfl);(case hr => first|(go_simp;done)|(go_simp;rfl));intro gb238 hg w6 hbox hb;have n0_:=Aside0.mk (below_step (by repeat (first|(with_reducible first|exact HB.out|apply below_alloc|apply pw_below_drewN|apply below_drew1)|exact HB.out)) hb);have n1_:=Aside0.mk (hbox);have n2_:=Aside0.mk ((by rw [hg];exact (below_size (by repeat (first|(with_reducible first|exact HB.out|apply below_alloc|apply pw_below_drewN|apply below_drew1)|exact HB.out))) : w.heap.size ≤ gb238));have n3_:=Aside0.mk ((by rw [hg];exact (below_size (by repeat (first|(with_reducible first|exact HB.out|apply below_alloc|apply pw_below_drewN|apply below_drew1)|exact HB.out))) : w.heap.size ≤ gb238));clear HB;have HB:=n0_;have BK238:=n1_;have GW238:=n2_;have GE238:=n3_;clear n0_ n1_ n2_ n3_;clear hb hbox hg;have hcz7_0 : w6.cell? ⟨gb238,0,none⟩ = some (.int .i64 a1_0):=(blk_cell BK238.out 0).trans rfl;have hcz7_1 : w6.cell? ⟨gb238,1,none⟩ = some (.slice A1_1 l1_1.length c1_1):=(blk_cell BK238.out 1).trans rfl;have hfz7_0:=blk_frozen BK238.out 0;have hfz7_1:=blk_frozen BK238.out 1)|((with_reducible refine gate_callee (f:=18) rfl ?_);refine goesL_ (some 9) rfl rfl Tryd.func18 (by kernel_rfl) rfl #[.slice A0 l0.length c0,.agg #[.int .i64 a1_0,.slice A1_1 l1_1.length c1_1]] rfl (by (try simp only [List.map_toArray,List.map_cons,List.map_nil]);first|done|rfl|(simp only [List.length_drop,List.length_take];rfl)) ?_;(with_reducible refine (spec_NurseryOk.calls k _ _ l0 a1_0 _ _ l1_1 true _ ?side1 ?side2 ?side3 ?side4 A3.out).mono ?_);(case side1 => repeat (first|exact (Kd.C_below HR0.out HB.out)|(with_reducible first|refine Kd.C_alloc ?_ _|refine Kd.C_drewN ?_ _|refine Kd.C_drew ?_)));(case side2 => exact HC0.out);(case side3 => repeat (first|exact (Kd.C_below HR1_1.out HB.out)|(with_reducible first|refine Kd.C_alloc ?_ _|refine Kd.C_drewN ?_ _|refine Kd.C_drew ?_)));(case side4 => exact HC1_1.out);rintro e w8 ⟨rfl,hb⟩;refine ⟨_,rfl,?_⟩;have n0_:=Aside0.mk (blk_below (g:=gb238) (o:=.cells #[.int .i64 a1_0,.slice A1_1 l1_1.length c1_1] 30 (0,0)) (by (with_reducible repeat (first|refine blk_drewN ?_ _|refine blk_drew ?_|refine blk_alloc ?_ _));exact BK238.out) hb);have n1_:=Aside0.mk (below_step (by repeat (first|(with_reducible first|exact HB.out|apply below_alloc|apply pw_below_drewN|apply below_drew1|refine below_set ?_ GE238.out)|exact HB.out)) hb);clear BK238 HB;have BK238:=n0_;have HB:=n1_;clear n0_ n1_;(try clear hb);(try clear hb2);(try clear hk);(try clear hi);have hcz9_0 : w8.cell? ⟨gb238,0,none⟩ = some (.int .i64 a1_0):=(blk_cell BK238.out 0).trans rfl;have hcz9_1 : w8.cell? ⟨gb238,1,none⟩ = some (.slice A1_1 l1_1.length c1_1):=(blk_cell BK238.out 1).trans rfl;have hfz9_0:=blk_frozen BK238.out 0;have hfz9_1:=blk_frozen BK238.out 1)|((with_reducible refine gate_callee (f:=58) rfl ?_);refine goesL_ (some 14) rfl rfl Tryd.func58 (by kernel_rfl) rfl #[.slice A0 l0.length c0,.agg #[.int .i64 a1_0,.slice A1_1 l1_1.length c1_1]] rfl (by (try simp only [List.map_toArray,List.map_cons,List.map_nil]);first|done|rfl|(simp only [List.length_drop,List.length_take];rfl)) ?_;(with_reducible refine (spec_l8Parse.calls k _ _ l0 a1_0 _ _ l1_1 t240 t243 _ ?side1 ?side2 ?side3 ?side4 A5.out).mono ?_);(case side1 => repeat (first|exact (Kd.C_below HR0.out HB.out)|(with_reducible first|refine Kd.C_alloc ?_ _|refine Kd.C_drewN ?_ _|refine Kd.C_drew ?_)));(case side2 => exact HC0.out);(case side3 => repeat (first|exact (Kd.C_below HR1_1.out HB.out)|(with_reducible first|refine Kd.C_alloc ?_ _|refine Kd.C_drewN ?_ _|refine Kd.C_drew ?_)));(case side4 => exact HC1_1.out);rintro e w10 ⟨v241,rfl,ho0,hb⟩;refine ⟨_,rfl,?_⟩;have n0_:=Aside0.mk (Kd.R_lower ho0 (below_size (by repeat (first|(with_reducible first|exact HB.out|apply below_alloc|apply pw_below_drewN|apply below_drew1|refine below_set ?_ GE238.out)|exact HB.out))));have n1_:=Aside0.mk (blk_below (g:=gb238) (o:=.cells #[.int .i64 a1_0,.slice A1_1 l1_1.length c1_1] 30 (0,0)) (by (with_reducible repeat (first|refine blk_drewN ?_ _|refine blk_drew ?_|refine blk_alloc ?_ _));exact BK238.out) hb);have n2_:=Aside0.mk (below_step (by repeat (first|(with_reducible first|exact HB.out|apply below_alloc|apply pw_below_drewN|apply below_drew1|refine below_set ?_ GE238.out)|exact HB.out)) hb);clear BK238 HB;have HO242:=n0_;have BK238:=n1_;have HB:=n2_;clear n0_ n1_ n2_;(try clear hb);(try clear hb2);(try clear hk);(try clear hi);(try clear ho0)))
  go_ret
  exact ⟨_,by first|rfl|(simp [errW_none,errW_some] <;> rfl)|(simp [*,errW_none,errW_some] <;> rfl),by (with_reducible repeat (first|apply Kd.R_alloc|apply Kd.R_drewN|apply Kd.R_drew));exact HO242.out,by repeat (first|(with_reducible first|exact HB.out|apply below_alloc|apply pw_below_drewN|apply below_drew1|refine below_set ?_ GE238.out)|exact HB.out)⟩
 ·replace c4:=Bool.eq_false_iff.mpr c4
  subst c4
  have H1 : (some ([] : List Int)) = some r:=by rw [if_neg (show ¬ (false = true) by decide)] at H;exact H
  clear H
  have H:=H1
  clear H1
  obtain rfl:=Option.some.inj H
  go_enter Tryd.func24,Tryd.ntmps24
  go_wp2_with (first|((with_reducible refine gate_dst (N:=3) rfl ?_);refine box_event ?hg (N:=3) ?hd (cs:=#[.int .i64 a1_0,.slice A1_1 l1_1.length c1_1]) (t:=30) ?hr ?_;(case hd => rfl);(case hg => rfl);(case hr => first|(go_simp;done)|(go_simp;rfl));intro gb238 hg w11 hbox hb;have n0_:=Aside0.mk (below_step (by repeat (first|(with_reducible first|exact HB.out|apply below_alloc|apply pw_below_drewN|apply below_drew1)|exact HB.out)) hb);have n1_:=Aside0.mk (hbox);have n2_:=Aside0.mk ((by rw [hg];exact (below_size (by repeat (first|(with_reducible first|exact HB.out|apply below_alloc|apply pw_below_drewN|apply below_drew1)|exact HB.out))) : w.heap.size ≤ gb238));have n3_:=Aside0.mk ((by rw [hg];exact (below_size (by repeat (first|(with_reducible first|exact HB.out|apply below_alloc|apply pw_below_drewN|apply below_drew1)|exact HB.out))) : w.heap.size ≤ gb238));clear HB;have HB:=n0_;have BK238:=n1_;have GW238:=n2_;have GE238:=n3_;clear n0_ n1_ n2_ n3_;clear hb hbox hg;have hcz12_0 : w11.cell? ⟨gb238,0,none⟩ = some (.int .i64 a1_0):=(blk_cell BK238.out 0).trans rfl;have hcz12_1 : w11.cell? ⟨gb238,1,none⟩ = some (.slice A1_1 l1_1.length c1_1):=(blk_cell BK238.out 1).trans rfl;have hfz12_0:=blk_frozen BK238.out 0;have hfz12_1:=blk_frozen BK238.out 1)|((with_reducible refine gate_callee (f:=18) rfl ?_);refine goesL_ (some 9) rfl rfl Tryd.func18 (by kernel_rfl) rfl #[.slice A0 l0.length c0,.agg #[.int .i64 a1_0,.slice A1_1 l1_1.length c1_1]] rfl (by (try simp only [List.map_toArray,List.map_cons,List.map_nil]);first|done|rfl|(simp only [List.length_drop,List.length_take];rfl)) ?_;(with_reducible refine (spec_NurseryOk.calls k _ _ l0 a1_0 _ _ l1_1 false _ ?side1 ?side2 ?side3 ?side4 A3.out).mono ?_);(case side1 => repeat (first|exact (Kd.C_below HR0.out HB.out)|(with_reducible first|refine Kd.C_alloc ?_ _|refine Kd.C_drewN ?_ _|refine Kd.C_drew ?_)));(case side2 => exact HC0.out);(case side3 => repeat (first|exact (Kd.C_below HR1_1.out HB.out)|(with_reducible first|refine Kd.C_alloc ?_ _|refine Kd.C_drewN ?_ _|refine Kd.C_drew ?_)));(case side4 => exact HC1_1.out);rintro e w13 ⟨rfl,hb⟩;refine ⟨_,rfl,?_⟩;have n0_:=Aside0.mk (blk_below (g:=gb238) (o:=.cells #[.int .i64 a1_0,.slice A1_1 l1_1.length c1_1] 30 (0,0)) (by (with_reducible repeat (first|refine blk_drewN ?_ _|refine blk_drew ?_|refine blk_alloc ?_ _));exact BK238.out) hb);have n1_:=Aside0.mk (below_step (by repeat (first|(with_reducible first|exact HB.out|apply below_alloc|apply pw_below_drewN|apply below_drew1|refine below_set ?_ GE238.out)|exact HB.out)) hb);clear BK238 HB;have BK238:=n0_;have HB:=n1_;clear n0_ n1_;(try clear hb);(try clear hb2);(try clear hk);(try clear hi)))
  go_ret
  exact ⟨_,by first|rfl|(simp [errW_none,errW_some] <;> rfl)|(simp [*,errW_none,errW_some] <;> rfl),by first|exact Kd.R_nil _ _ _ _ _|exact Kd.N_nil _ _ _ _ _|exact Kd.V_nil _ _ _ _ _|exact Kd.Q_nil _ _ _ _ _|exact Kd.S_nil _ _ _ _ _,by repeat (first|(with_reducible first|exact HB.out|apply below_alloc|apply pw_below_drewN|apply below_drew1|refine below_set ?_ GE238.out)|exact HB.out)⟩

end Go.Proofs.YtgfeafcgpeclcaaDoor.X
namespace Go.Proofs.YtgfeafcgpeclcaaDoor.X
open Go.RowKit Go.Proofs.YtgfeafcgpeclcaaDoorW.PrintWords Go.Proofs.YtgfeafcgpeclcaaDoorW.PrintLast Go.Proofs.YtgfeafcgpeclcaaDoorW.PrintMore
attribute [local go_sem] max2_int min2_int max_two min_two max_three min_three max_four min_four   -- for this text's walks alone
set_option linter.unusedVariables false
set_option linter.unusedSimpArgs false

/-! ### spec_l8Obj: function 64 -/
def spec_l8Obj.f (l0 : List ByteArray) (a1_0 : Int) (l1_1 : List Int) (a2 : Int) : Option (Int × List Int) := if 0 ≤ a2 then (if a2 < (l1_1.length : Int) then ((some (([] : List Int) : List Int)).bind fun y395 => (if 0 ≤ (wrap64 (Int.tdiv (rd l1_1 a2) 4)) then (if (wrap64 (Int.tdiv (rd l1_1 a2) 4)) < (l0.length : Int) then (if 0 ≤ (wrap64 (a2 + 1)) then (if (wrap64 (a2 + 1)) ≤ (wrap64 ((wrap64 (a2 + 1)) + ((rdOf ByteArray.empty l0 (wrap64 (Int.tdiv (rd l1_1 a2) 4))).size : Int))) then (if (wrap64 ((wrap64 (a2 + 1)) + ((rdOf ByteArray.empty l0 (wrap64 (Int.tdiv (rd l1_1 a2) 4))).size : Int))) ≤ (l1_1.length : Int) then (if y395.length + ((l1_1.take ((wrap64 ((wrap64 (a2 + 1)) + ((rdOf ByteArray.empty l0 (wrap64 (Int.tdiv (rd l1_1 a2) 4))).size : Int))) : Int).toNat).drop ((wrap64 (a2 + 1)) : Int).toNat).length < 17592186044416 then (some (wrap64 (Int.tdiv (rd l1_1 a2) 4), (y395 ++ ((l1_1.take ((wrap64 ((wrap64 (a2 + 1)) + ((rdOf ByteArray.empty l0 (wrap64 (Int.tdiv (rd l1_1 a2) 4))).size : Int))) : Int).toNat).drop ((wrap64 (a2 + 1)) : Int).toNat)))) else (none)) else (none)) else (none)) else (none)) else (none)) else (none))) else (none)) else (none)
def spec_l8Obj.T2 : Bool × List (List Nat × List Nat) := (true, [([], []), ([], []), ([], []), ([2], [2]), ([], []), ([4], [4]), ([], []), ([6], [6]), ([], []), ([], []), ([8, 9], [8, 9]), ([10], [10]), ([11], [11]), ([7, 12], [7, 12]), ([3, 5, 13], [3, 5, 13]), ([1, 14], [1, 14]), ([0, 15], [0, 15]), ([16, 15, 0, 1, 2, 3, 4, 5, 6, 7, 8, 9, 10, 11, 12, 13, 14, 15, 16], [16])])
def spec_l8Obj.B2 : List Nat := [0, 0, 0, 4, 0, 16, 0, 64, 0, 0, 768, 1792, 3840, 8128, 16380, 32766, 65535, 131071]
theorem spec_l8Obj.tab2 : rtab .any (opsOf Tryd.f64 2) = spec_l8Obj.T2 := by kernel_rfl
theorem spec_l8Obj.bits2 : waitsOk spec_l8Obj.T2.2 spec_l8Obj.B2 = true := by kernel_rfl
set_option maxHeartbeats 8000000 in
set_option maxRecDepth 100000 in
theorem spec_l8Obj.calls (A0 : Option Addr) (c0 : Nat) (l0 : List ByteArray) (a1_0 : Int) (A1_1 : Option Addr) (c1_1 : Nat) (l1_1 : List Int) (a2 : Int) (r1 : Int) (r2 : List Int) (w : World) (hr0 : Kd.C Kd.string w A0 l0.length l0) (hc0 : l0.length ≤ c0) (hr1_1 : Kd.C (Kd.int .i64) w A1_1 l1_1.length l1_1) (hc1_1 : l1_1.length ≤ c1_1) (h : spec_l8Obj.f l0 a1_0 l1_1 a2 = some (r1, r2)) :
  Calls Tryd.prog 64 #[.slice A0 l0.length c0,.agg #[.int .i64 a1_0,.slice A1_1 l1_1.length c1_1],.int .i64 a2] w fun e w' => ∃ v1_ : Value,e = .returned (.agg #[.int .i64 r1,v1_])∧Kd.R (Kd.int .i64) 2 w' w.heap.size (fun _ => True) v1_ r2∧Below w.heap.size w w':=by
 have hu30:=Tryd.underlying30
 have hu40:=Tryd.underlying40
 have HR0:=Aside0.mk hr0
 have HC0:=Aside0.mk hc0
 clear hr0 hc0
 have HR1_1:=Aside0.mk hr1_1
 have HC1_1:=Aside0.mk hc1_1
 clear hr1_1 hc1_1
 have HB:=Aside0.mk (Below.refl w.heap.size w)
 have H : (if 0 ≤ a2 then (if a2 < (l1_1.length : Int) then ((some (([] : List Int) : List Int)).bind fun y395 => (if 0 ≤ (wrap64 (Int.tdiv (rd l1_1 a2) 4)) then (if (wrap64 (Int.tdiv (rd l1_1 a2) 4)) < (l0.length : Int) then (if 0 ≤ (wrap64 (a2 + 1)) then (if (wrap64 (a2 + 1)) ≤ (wrap64 ((wrap64 (a2 + 1)) + ((rdOf ByteArray.empty l0 (wrap64 (Int.tdiv (rd l1_1 a2) 4))).size : Int))) then (if (wrap64 ((wrap64 (a2 + 1)) + ((rdOf ByteArray.empty l0 (wrap64 (Int.tdiv (rd l1_1 a2) 4))).size : Int))) ≤ (l1_1.length : Int) then (if y395.length + ((l1_1.take ((wrap64 ((wrap64 (a2 + 1)) + ((rdOf ByteArray.empty l0 (wrap64 (Int.tdiv (rd l1_1 a2) 4))).size : Int))) : Int).toNat).drop ((wrap64 (a2 + 1)) : Int).toNat).length < 17592186044416 then (some (wrap64 (Int.tdiv (rd l1_1 a2) 4),(y395 ++ ((l1_1.take ((wrap64 ((wrap64 (a2 + 1)) + ((rdOf ByteArray.empty l0 (wrap64 (Int.tdiv (rd l1_1 a2) 4))).size : Int))) : Int).toNat).drop ((wrap64 (a2 + 1)) : Int).toNat)))) else (none)) else (none)) else (none)) else (none)) else (none)) else (none))) else (none)) else (none)) = some (r1,r2):=h
 clear h
 by_cases c4 : 0 ≤ a2
 ·rw [if_pos c4] at H
  have c4b0 : decide (0 ≤ a2) = true:=decide_eq_true c4
  clear c4
  by_cases c5 : a2 < (l1_1.length : Int)
  ·rw [if_pos c5] at H
   have c5b0 : decide (a2 < (l1_1.length : Int)) = true:=decide_eq_true c5
   clear c5
   obtain ⟨y395,hy395⟩ : ∃ y_ : List Int,y_ = (([] : List Int)):=⟨_,rfl⟩
   replace H : (if 0 ≤ (wrap64 (Int.tdiv (rd l1_1 a2) 4)) then (if (wrap64 (Int.tdiv (rd l1_1 a2) 4)) < (l0.length : Int) then (if 0 ≤ (wrap64 (a2 + 1)) then (if (wrap64 (a2 + 1)) ≤ (wrap64 ((wrap64 (a2 + 1)) + ((rdOf ByteArray.empty l0 (wrap64 (Int.tdiv (rd l1_1 a2) 4))).size : Int))) then (if (wrap64 ((wrap64 (a2 + 1)) + ((rdOf ByteArray.empty l0 (wrap64 (Int.tdiv (rd l1_1 a2) 4))).size : Int))) ≤ (l1_1.length : Int) then (if y395.length + ((l1_1.take ((wrap64 ((wrap64 (a2 + 1)) + ((rdOf ByteArray.empty l0 (wrap64 (Int.tdiv (rd l1_1 a2) 4))).size : Int))) : Int).toNat).drop ((wrap64 (a2 + 1)) : Int).toNat).length < 17592186044416 then (some (wrap64 (Int.tdiv (rd l1_1 a2) 4),(y395 ++ ((l1_1.take ((wrap64 ((wrap64 (a2 + 1)) + ((rdOf ByteArray.empty l0 (wrap64 (Int.tdiv (rd l1_1 a2) 4))).size : Int))) : Int).toNat).drop ((wrap64 (a2 + 1)) : Int).toNat)))) else (none)) else (none)) else (none)) else (none)) else (none)) else (none)) = some (r1,r2):=by first|(rw [hy395];with_reducible exact H)|(have H2_:=(Option.bind_some _ _).symm.trans H;rw [hy395];with_reducible exact H2_)|(have H2_:=(Option.bind_some _ _).symm.trans H;with_reducible exact H2_)|with_reducible exact H|(rw [hy395];exact H)|exact H
   have Ny395:=Aside0.mk hy395
   clear hy395
   obtain ⟨ji6,hji6⟩ : ∃ j_ : Int,(wrap64 (Int.tdiv (rd l1_1 a2) 4)) = j_:=⟨_,rfl⟩
   replace H : (if 0 ≤ (ji6) then (if (ji6) < (l0.length : Int) then (if 0 ≤ (wrap64 (a2 + 1)) then (if (wrap64 (a2 + 1)) ≤ (wrap64 ((wrap64 (a2 + 1)) + ((rdOf ByteArray.empty l0 (ji6)).size : Int))) then (if (wrap64 ((wrap64 (a2 + 1)) + ((rdOf ByteArray.empty l0 (ji6)).size : Int))) ≤ (l1_1.length : Int) then (if y395.length + ((l1_1.take ((wrap64 ((wrap64 (a2 + 1)) + ((rdOf ByteArray.empty l0 (ji6)).size : Int))) : Int).toNat).drop ((wrap64 (a2 + 1)) : Int).toNat).length < 17592186044416 then (some (ji6,(y395 ++ ((l1_1.take ((wrap64 ((wrap64 (a2 + 1)) + ((rdOf ByteArray.empty l0 (ji6)).size : Int))) : Int).toNat).drop ((wrap64 (a2 + 1)) : Int).toNat)))) else (none)) else (none)) else (none)) else (none)) else (none)) else (none)) = some (r1,r2):=by first|(rw [hji6] at H;exact H)|(simp only [hji6] at H ⊢;exact H)
   have hji6w : (IntKind.i64.wrap (Int.tdiv (rd l1_1 a2) 4)) = ji6:=(i64_w _).trans hji6
   by_cases c7 : 0 ≤ (ji6)
   ·rw [if_pos c7] at H
    have c7b0 : decide (0 ≤ (ji6)) = true:=decide_eq_true c7
    clear c7
    by_cases c8 : (ji6) < (l0.length : Int)
    ·rw [if_pos c8] at H
     have c8b0 : decide ((ji6) < (l0.length : Int)) = true:=decide_eq_true c8
     clear c8
     obtain ⟨ji9,hji9⟩ : ∃ j_ : Int,(wrap64 (a2 + 1)) = j_:=⟨_,rfl⟩
     replace H : (if 0 ≤ (ji9) then (if (ji9) ≤ (wrap64 ((ji9) + ((rdOf ByteArray.empty l0 (ji6)).size : Int))) then (if (wrap64 ((ji9) + ((rdOf ByteArray.empty l0 (ji6)).size : Int))) ≤ (l1_1.length : Int) then (if y395.length + ((l1_1.take ((wrap64 ((ji9) + ((rdOf ByteArray.empty l0 (ji6)).size : Int))) : Int).toNat).drop ((ji9) : Int).toNat).length < 17592186044416 then (some (ji6,(y395 ++ ((l1_1.take ((wrap64 ((ji9) + ((rdOf ByteArray.empty l0 (ji6)).size : Int))) : Int).toNat).drop ((ji9) : Int).toNat)))) else (none)) else (none)) else (none)) else (none)) = some (r1,r2):=by first|(rw [hji9] at H;exact H)|(simp only [hji9] at H ⊢;exact H)
     have hji9w : (IntKind.i64.wrap (a2 + 1)) = ji9:=(i64_w _).trans hji9
     by_cases c10 : 0 ≤ (ji9)
     ·rw [if_pos c10] at H
      have c10b0:=eq_true c10
      have c10b1 : decide (0 ≤ (ji9)) = true:=decide_eq_true c10
      clear c10
      by_cases c11 : (ji9) ≤ (wrap64 ((ji9) + ((rdOf ByteArray.empty l0 (ji6)).size : Int)))
      ·rw [if_pos c11] at H
       have c11b0:=eq_true c11
       have c11b1 : decide ((ji9) ≤ (wrap64 ((ji9) + ((rdOf ByteArray.empty l0 (ji6)).size : Int)))) = true:=decide_eq_true c11
       by_cases c12 : (wrap64 ((ji9) + ((rdOf ByteArray.empty l0 (ji6)).size : Int))) ≤ (l1_1.length : Int)
       ·rw [if_pos c12] at H
        have c12b0:=eq_true c12
        have c12b1 : decide ((wrap64 ((ji9) + ((rdOf ByteArray.empty l0 (ji6)).size : Int))) ≤ (l1_1.length : Int)) = true:=decide_eq_true c12
        by_cases c13 : y395.length + ((l1_1.take ((wrap64 ((ji9) + ((rdOf ByteArray.empty l0 (ji6)).size : Int))) : Int).toNat).drop ((ji9) : Int).toNat).length < 17592186044416
        ·rw [if_pos c13] at H
         have LMc13:=Aside0.mk c13
         clear c13
         obtain ⟨y400,hy400⟩ : ∃ y_ : List Int,y_ = (y395 ++ ((l1_1.take ((wrap64 ((ji9) + ((rdOf ByteArray.empty l0 (ji6)).size : Int))) : Int).toNat).drop ((ji9) : Int).toNat)):=⟨_,rfl⟩
         replace H : (some (ji6,y400)) = some (r1,r2):=by first|(rw [hy400];with_reducible exact H)|(have H2_:=(Option.bind_some _ _).symm.trans H;rw [hy400];with_reducible exact H2_)|(have H2_:=(Option.bind_some _ _).symm.trans H;with_reducible exact H2_)|with_reducible exact H|(rw [hy400];exact H)|exact H
         have Ny400:=Aside0.mk hy400
         clear hy400
         simp only [Option.some.injEq,Prod.mk.injEq] at H
         obtain ⟨rfl,rfl⟩:=H
         go_enter Tryd.func64,Tryd.ntmps64
         try go_wp2_with (first|((with_reducible refine gate_dst (N:=4) rfl ?_);refine box_event ?hg (N:=4) ?hd (cs:=#[.int .i64 a1_0,.slice A1_1 l1_1.length c1_1]) (t:=30) ?hr ?_;(case hd => rfl);(case hg => rfl);(case hr => first|(go_simp;done)|(go_simp;rfl));intro gb392 hg w14 hbox hb;have n0_:=Aside0.mk (below_step (by repeat (first|(with_reducible first|exact HB.out|apply below_alloc|apply pw_below_drewN|apply below_drew1)|exact HB.out)) hb);have n1_:=Aside0.mk (hbox);have n2_:=Aside0.mk ((by rw [hg];exact (below_size (by repeat (first|(with_reducible first|exact HB.out|apply below_alloc|apply pw_below_drewN|apply below_drew1)|exact HB.out))) : w.heap.size ≤ gb392));have n3_:=Aside0.mk ((by rw [hg];exact (below_size (by repeat (first|(with_reducible first|exact HB.out|apply below_alloc|apply pw_below_drewN|apply below_drew1)|exact HB.out))) : w.heap.size ≤ gb392));clear HB;have HB:=n0_;have BK392:=n1_;have GW392:=n2_;have GE392:=n3_;clear n0_ n1_ n2_ n3_;clear hb hbox hg)|((with_reducible refine gate_dst (N:=6) rfl ?_);refine box_event ?hg (N:=6) ?hd (cs:=#[.int .i64 0,.slice none 0 0]) (t:=40) ?hr ?_;(case hd => rfl);(case hg => rfl);(case hr => first|(go_simp;done)|(go_simp;rfl));intro gb393 hg w15 hbox hb;have n0_:=Aside0.mk (blk_below (g:=gb392) (o:=.cells #[.int .i64 a1_0,.slice A1_1 l1_1.length c1_1] 30 (0,0)) (by (with_reducible repeat (first|refine blk_drewN ?_ _|refine blk_drew ?_|refine blk_alloc ?_ _));exact BK392.out) hb);have n1_:=Aside0.mk (below_step (by repeat (first|(with_reducible first|exact HB.out|apply below_alloc|apply pw_below_drewN|apply below_drew1|refine below_set ?_ GE392.out)|exact HB.out)) hb);have n2_:=Aside0.mk (hbox);have n3_:=Aside0.mk ((by rw [hg];exact (below_size (by repeat (first|(with_reducible first|exact HB.out|apply below_alloc|apply pw_below_drewN|apply below_drew1|refine below_set ?_ GE392.out)|exact HB.out))) : w.heap.size ≤ gb393));have n4_:=Aside0.mk ((by rw [hg];exact (below_size (by repeat (first|(with_reducible first|exact HB.out|apply below_alloc|apply pw_below_drewN|apply below_drew1|refine below_set ?_ GE392.out)|exact HB.out))) : w.heap.size ≤ gb393));have n5_:=Aside0.mk ((by rw [hg];exact Nat.ne_of_lt (blk_lt (g:=gb392) (o:=.cells #[.int .i64 a1_0,.slice A1_1 l1_1.length c1_1] 30 (0,0)) (by (with_reducible repeat (first|refine blk_drewN ?_ _|refine blk_drew ?_|refine blk_alloc ?_ _));exact BK392.out)) : gb392≠gb393));have n6_:=Aside0.mk ((by rw [hg];exact Nat.ne_of_gt (blk_lt (g:=gb392) (o:=.cells #[.int .i64 a1_0,.slice A1_1 l1_1.length c1_1] 30 (0,0)) (by (with_reducible repeat (first|refine blk_drewN ?_ _|refine blk_drew ?_|refine blk_alloc ?_ _));exact BK392.out)) : gb393≠gb392));clear BK392 HB;have BK392:=n0_;have HB:=n1_;have BK393:=n2_;have GW393:=n3_;have GE393:=n4_;have NB392_393:=n5_;have NB393_392:=n6_;clear n0_ n1_ n2_ n3_ n4_ n5_ n6_;clear hb hbox hg;have hnb16:=NB392_393.out;have hnc16:=NB393_392.out;have hcz17_0 : w15.cell? ⟨gb392,0,none⟩ = some (.int .i64 a1_0):=(blk_cell BK392.out 0).trans rfl;have hcz17_1 : w15.cell? ⟨gb392,1,none⟩ = some (.slice A1_1 l1_1.length c1_1):=(blk_cell BK392.out 1).trans rfl;have hfz17_0:=blk_frozen BK392.out 0;have hfz17_1:=blk_frozen BK392.out 1;have p394 : 0 ≤ (a2 : Int):=of_decide_eq_true (by first|(with_reducible assumption)|assumption);have q394 : a2 < (l1_1.length : Int):=of_decide_eq_true (by first|(with_reducible assumption)|assumption);obtain ⟨ad394,e394,hx394_0⟩:=Kd.at_int HR1_1.out a2 p394 q394;cases e394;replace hx394_0:=(HB.out.cell (World.block_lt_of_cell? w _ hx394_0)).trans hx394_0;replace p394:=eq_true p394;replace q394:=eq_true q394))
         have n0_:=Aside0.mk (blk_drew BK392.out)
         have n1_:=Aside0.mk (blk_drew BK393.out)
         have n2_:=Aside0.mk (below_drew1 HB.out)
         clear BK392
         clear BK393
         clear HB
         have BK392:=n0_
         have BK393:=n1_
         have HB:=n2_
         clear n0_ n1_ n2_
         have p398 : 0 ≤ ((ji6) : Int):=of_decide_eq_true (by first|(with_reducible assumption)|assumption)
         have q398 : (ji6) < (l0.length : Int):=of_decide_eq_true (by first|(with_reducible assumption)|assumption)
         obtain ⟨ad398,e398,hx398_0⟩:=Kd.at_string HR0.out (ji6) p398 q398
         have hw398_0:=hx398_0
         cases e398
         replace hx398_0:=(HB.out.cell (World.block_lt_of_cell? w _ hx398_0)).trans hx398_0
         replace p398:=eq_true p398
         replace q398:=eq_true q398
         obtain ⟨i019,hi019,_,hsz19,_⟩:=info_parts info2
         obtain ⟨A19,hcut19,hA19,hC19⟩:=print_mid_of (P:=Tryd.prog) (Value.int .i64) 0 23 2 .i64 .i64 Tryd.underlying23 hi019 hsz19 (some ad394) c1_1 l1_1 (ji9) (wrap64 ((ji9) + ((rdOf ByteArray.empty l0 (ji6)).size : Int))) (of_decide_eq_true (by first|(with_reducible assumption)|assumption)) (by first|omega|exact of_decide_eq_true (by first|(with_reducible assumption)|assumption)) (of_decide_eq_true (by first|(with_reducible assumption)|assumption)) HC1_1.out
         have HR399:=Aside0.mk (Kd.C_of_reads (h1:=fun _ => rfl) (hA19 _ (Kd.reads_of_C HR1_1.out)))
         have HC399:=Aside0.mk hC19
         clear hA19 hC19 hi019 hsz19
         refine start_ (n:=18) (S:=fun w' => w'.cell? ⟨gb392,0,none⟩ = some (.int .i64 a1_0)∧w'.cell? ⟨gb392,1,none⟩ = some (.slice (some ad394) l1_1.length c1_1)∧w'.cell? (ad398.add ((ji6)).toNat) = some (.string (rdOf ByteArray.empty l0 (ji6)))) (ds:=[]) #[false,false,false,false,false,false,false,false,false,false,false,false,false,false,false,false,false,false] (by kernel_rfl) rfl rfl ⟨(blk_cell BK392.out 0).trans rfl,(blk_cell BK392.out 1).trans rfl,((HB.out.cell (World.block_lt_of_cell? w _ hw398_0)).trans hw398_0)⟩ (fun hHeld => ?_);refine with_tabW spec_l8Obj.tab2 spec_l8Obj.bits2 (fun HT_ HW_ => ?_)
         generalize w15.drew = w18 at BK392 BK393 HB HR399 hx398_0 hHeld ⊢
         refine pure_ (i:=0) (N:=some 14) (v:=?_) (a':=?_) #[true,false,false,false,false,false,false,false,false,false,false,false,false,false,false,false,false,false] rfl rfl (any_of HT_.out (by kernel_rfl)) (fun _ _ _ h => h) (Or.inl ⟨by rfl,?_⟩) ?_ ?_
         rotate_left
         ·intro w'
          go_simp
          with_reducible rfl
         rotate_left
         ·simp only [Act.put,List.setIfInBounds_toArray,List.set_cons_zero,List.set_cons_succ,i64_w,i32_w]
          rfl
         refine pure_ (i:=2) (N:=some 16) (v:=?_) (a':=?_) #[true,false,true,false,false,false,false,false,false,false,false,false,false,false,false,false,false,false] rfl rfl (any_of HT_.out (by kernel_rfl)) (fun _ _ _ h => h) (Or.inl ⟨by rfl,?_⟩) ?_ ?_
         rotate_left
         ·intro w'
          go_simp
          with_reducible rfl
         rotate_left
         ·simp only [Act.put,List.setIfInBounds_toArray,List.set_cons_zero,List.set_cons_succ,i64_w,i32_w]
          rfl
         refine pure_ (i:=4) (N:=some 18) (v:=?_) (a':=?_) #[true,false,true,false,true,false,false,false,false,false,false,false,false,false,false,false,false,false] rfl rfl (any_of HT_.out (by kernel_rfl)) (fun _ _ _ h => h) (Or.inl ⟨by rfl,?_⟩) ?_ ?_
         rotate_left
         ·intro w'
          go_simp
          with_reducible rfl
         rotate_left
         ·simp only [Act.put,List.setIfInBounds_toArray,List.set_cons_zero,List.set_cons_succ,i64_w,i32_w]
          rfl
         refine pure_ (i:=5) (N:=some 19) (v:=?_) (a':=?_) #[true,false,true,false,true,true,false,false,false,false,false,false,false,false,false,false,false,false] rfl rfl (any_of HT_.out (by kernel_rfl)) (fun _ _ _ h => h) (Or.inl ⟨by rfl,?_⟩) ?_ ?_
         rotate_left
         ·intro w'
          go_simp
          with_reducible rfl
         rotate_left
         ·simp only [Act.put,List.setIfInBounds_toArray,List.set_cons_zero,List.set_cons_succ,i64_w,i32_w]
          rfl
         refine pure_ (i:=6) (N:=some 20) (v:=?_) (a':=?_) #[true,false,true,false,true,true,true,false,false,false,false,false,false,false,false,false,false,false] rfl rfl (any_of HT_.out (by kernel_rfl)) (fun _ _ _ h => h) (Or.inl ⟨by rfl,?_⟩) ?_ ?_
         rotate_left
         ·intro w'
          go_simp
          with_reducible rfl
         rotate_left
         ·simp only [Act.put,List.setIfInBounds_toArray,List.set_cons_zero,List.set_cons_succ,i64_w,i32_w]
          rfl
         refine pure_ (i:=7) (N:=some 21) (v:=?_) (a':=?_) #[true,false,true,false,true,true,true,true,false,false,false,false,false,false,false,false,false,false] rfl rfl (any_of HT_.out (by kernel_rfl)) (fun _ _ _ h => h) (Or.inl ⟨by rfl,?_⟩) ?_ ?_
         rotate_left
         ·intro w'
          go_simp
          with_reducible rfl
         rotate_left
         ·simp only [Act.put,List.setIfInBounds_toArray,List.set_cons_zero,List.set_cons_succ,i64_w,i32_w]
          rfl
         refine pure_ (i:=8) (N:=some 22) (v:=?_) (a':=?_) #[true,false,true,false,true,true,true,true,true,false,false,false,false,false,false,false,false,false] rfl rfl (any_of HT_.out (by kernel_rfl)) (fun _ _ _ h => h) (Or.inl ⟨by rfl,?_⟩) ?_ ?_
         rotate_left
         ·intro w'
          go_simp
          with_reducible rfl
         rotate_left
         ·simp only [Act.put,List.setIfInBounds_toArray,List.set_cons_zero,List.set_cons_succ,i64_w,i32_w]
          rfl
         refine pure_ (i:=9) (N:=some 23) (v:=?_) (a':=?_) #[true,false,true,false,true,true,true,true,true,true,false,false,false,false,false,false,false,false] rfl rfl (any_of HT_.out (by kernel_rfl)) (fun _ _ _ h => h) (Or.inl ⟨by rfl,?_⟩) ?_ ?_
         rotate_left
         ·intro w'
          go_simp
          with_reducible rfl
         rotate_left
         ·simp only [Act.put,List.setIfInBounds_toArray,List.set_cons_zero,List.set_cons_succ,i64_w,i32_w]
          rfl
         refine pure_ (i:=10) (N:=some 24) (v:=?_) (a':=?_) #[true,false,true,false,true,true,true,true,true,true,true,false,false,false,false,false,false,false] rfl rfl (any_of HT_.out (by kernel_rfl)) (fun _ _ _ h => h) (Or.inl ⟨by rfl,?_⟩) ?_ ?_
         rotate_left
         ·intro w'
          go_simp
          with_reducible rfl
         rotate_left
         ·simp only [Act.put,List.setIfInBounds_toArray,List.set_cons_zero,List.set_cons_succ,i64_w,i32_w]
          rfl
         refine take_ (i:=3) (N:=some 17) (v:=?_) (a':=?_) #[true,false,true,true,true,true,true,true,true,true,true,false,false,false,false,false,false,false] rfl rfl (take_ofW HT_.out HW_.out (by kernel_rfl)) (fun _ _ _ h => h) (Or.inl ⟨by rfl,?_⟩) hHeld ?_ ?_
         rotate_left
         ·rintro w' ⟨s0,s1,s2⟩
          go_simp
          with_reducible rfl
         rotate_left
         ·simp only [Act.put,List.setIfInBounds_toArray,List.set_cons_zero,List.set_cons_succ,i64_w,i32_w]
          rfl
         refine take_ (i:=11) (N:=some 25) (v:=?_) (a':=?_) #[true,false,true,true,true,true,true,true,true,true,true,true,false,false,false,false,false,false] rfl rfl (take_ofW HT_.out HW_.out (by kernel_rfl)) (fun _ _ _ h => h) (Or.inl ⟨by rfl,?_⟩) hHeld ?_ ?_
         rotate_left
         ·rintro w' ⟨s0,s1,s2⟩
          go_simp
          with_reducible rfl
         rotate_left
         ·simp only [Act.put,List.setIfInBounds_toArray,List.set_cons_zero,List.set_cons_succ,i64_w,i32_w]
          rfl
         refine pure_ (i:=12) (N:=some 26) (v:=?_) (a':=?_) #[true,false,true,true,true,true,true,true,true,true,true,true,true,false,false,false,false,false] rfl rfl (any_of HT_.out (by kernel_rfl)) (fun _ _ _ h => h) (Or.inl ⟨by rfl,?_⟩) ?_ ?_
         rotate_left
         ·intro w'
          go_simp
          with_reducible rfl
         rotate_left
         ·simp only [Act.put,List.setIfInBounds_toArray,List.set_cons_zero,List.set_cons_succ,i64_w,i32_w]
          rfl
         refine pure_ (i:=13) (N:=some 27) (v:=?_) (a':=?_) #[true,false,true,true,true,true,true,true,true,true,true,true,true,true,false,false,false,false] rfl rfl (any_of HT_.out (by kernel_rfl)) (fun _ _ _ h => h) (Or.inl ⟨by rfl,?_⟩) ?_ ?_
         rotate_left
         ·intro w'
          go_simp
          with_reducible rfl
         rotate_left
         ·simp only [Act.put,List.setIfInBounds_toArray,List.set_cons_zero,List.set_cons_succ,i64_w,i32_w]
          rfl
         refine pure_ (i:=14) (N:=some 28) (v:=?_) (a':=?_) #[true,false,true,true,true,true,true,true,true,true,true,true,true,true,true,false,false,false] rfl rfl (any_of HT_.out (by kernel_rfl)) (fun _ _ _ h => h) (Or.inl ⟨by rfl,?_⟩) ?_ ?_
         rotate_left
         ·intro w'
          go_simp
          with_reducible rfl
         rotate_left
         ·simp only [Act.put,List.setIfInBounds_toArray,List.set_cons_zero,List.set_cons_succ,i64_w,i32_w]
          rfl
         refine one_ (i:=1) (N:=some 15) #[true,true,true,true,true,true,true,true,true,true,true,true,true,true,true,false,false,false] rfl rfl (one_of HT_.out (by kernel_rfl)) (by decide) (fun K hK => ?_)
         refine Kd.R_lit_step (Kd.int .i64) _ 2 ?hg (N:=15) ?hd (xs:=([] : List Int)) (inner:=[]) (ok:=fun _ => True) (okp:=fun _ => True) ?hr ?hp (fun _ hk => hk) trivial (Below.refl _ _) (Nat.le_refl _) (by simp) ?_;(case hd => rfl);(case hg => rfl);(case hr => first|(go_simp;done)|(go_simp;rfl));(case hp => exact (Reps.none _ _))
         intro v396 w20 ho21 hb hg_ hnew_
         clear hg_ hnew_
         (first|rw [← Ny395.out] at ho21|(simp only [Int.reduceToNat] at ho21;rw [← Ny395.out] at ho21))
         have n0_:=Aside0.mk (Kd.R_lower ho21 (below_size (by repeat (first|(with_reducible first|exact HB.out|apply below_alloc|apply pw_below_drewN|apply below_drew1|refine below_set ?_ GE392.out|refine below_set ?_ GE393.out)|exact HB.out))))
         have n1_:=Aside0.mk (blk_below (g:=gb392) (o:=.cells #[.int .i64 a1_0,.slice (some ad394) l1_1.length c1_1] 30 (0,0)) (by (with_reducible repeat (first|refine blk_drewN ?_ _|refine blk_drew ?_|refine blk_alloc ?_ _));exact BK392.out) hb)
         have n2_:=Aside0.mk (blk_below (g:=gb393) (o:=.cells #[.int .i64 0,.slice none 0 0] 40 (0,0)) (by (with_reducible repeat (first|refine blk_drewN ?_ _|refine blk_drew ?_|refine blk_alloc ?_ _));exact BK393.out) hb)
         have n3_:=Aside0.mk (below_step (by repeat (first|(with_reducible first|exact HB.out|apply below_alloc|apply pw_below_drewN|apply below_drew1|refine below_set ?_ GE392.out|refine below_set ?_ GE393.out)|exact HB.out)) hb)
         clear BK392
         clear BK393
         clear HB
         have HO397:=n0_
         have BK392:=n1_
         have BK393:=n2_
         have HB:=n3_
         clear n0_ n1_ n2_ n3_
         clear hb ho21
         refine hK.out _ _ ⟨(blk_cell BK392.out 0).trans rfl,(blk_cell BK392.out 1).trans rfl,((HB.out.cell (World.block_lt_of_cell? w _ hw398_0)).trans hw398_0)⟩ (fun hHeld => ?_)
         clear hK K
         refine norm_ (a':=?_) ?_ ?_
         rotate_left
         ·show Act.put _ (some 15) _ = _
          simp only [Act.put,List.setIfInBounds_toArray,List.set_cons_zero,List.set_cons_succ,i64_w,i32_w]
          rfl
         refine one_ (i:=15) (N:=some 29) #[true,true,true,true,true,true,true,true,true,true,true,true,true,true,true,true,false,false] rfl rfl (one_of HT_.out (by kernel_rfl)) (by decide) (fun K hK => ?_)
         refine Kd.R_append_rows_step (Kd.int .i64) (w0:=w) w.heap.size (by rfl) (.tmp 15) (.tmp 28) 23 2 (.int .i64 0) 8 rfl Tryd.underlying23 info2 rfl (by decide) (by omega) v396 y395 ((l1_1.take ((wrap64 ((ji9) + ((rdOf ByteArray.empty l0 (ji6)).size : Int))) : Int).toNat).drop ((ji9) : Int).toNat) _ _ _ (fun _ => True) (fun _ => False) rfl rfl ?aO ?aR (fun _ _ h => h) (fun _ h => h.elim) ?aF ?aB ?aS ?aL ?_
         (case aR => first|(rw [← show ((l1_1.take ((wrap64 ((ji9) + ((rdOf ByteArray.empty l0 (ji6)).size : Int))) : Int).toNat).drop ((ji9) : Int).toNat).length = ((wrap64 ((ji9) + ((rdOf ByteArray.empty l0 (ji6)).size : Int))).toNat - (ji9).toNat) from (by rw [List.length_drop,List.length_take];have h_ : ((wrap64 ((ji9) + ((rdOf ByteArray.empty l0 (ji6)).size : Int))) : Int) ≤ (l1_1.length : Int):=of_decide_eq_true (by first|(with_reducible assumption)|assumption);omega)];repeat (first|exact (Kd.C_below HR399.out HB.out)|(with_reducible first|refine Kd.C_alloc ?_ _|refine Kd.C_drewN ?_ _|refine Kd.C_drew ?_)))|(repeat (first|exact (Kd.C_below HR399.out HB.out)|(with_reducible first|refine Kd.C_alloc ?_ _|refine Kd.C_drewN ?_ _|refine Kd.C_drew ?_))))
         (case aB => exact (by repeat (first|(with_reducible first|exact HB.out|apply below_alloc|apply pw_below_drewN|apply below_drew1|refine below_set ?_ GE392.out|refine below_set ?_ GE393.out)|exact HB.out)))
         (case aF => exact (fun _ _ => trivial))
         (case aO => exact (by (with_reducible repeat (first|apply Kd.R_alloc|apply Kd.R_drewN|apply Kd.R_drew));exact HO397.out))
         (case aS => exact (below_size (by repeat (first|(with_reducible first|exact HB.out|apply below_alloc|apply pw_below_drewN|apply below_drew1|refine below_set ?_ GE392.out|refine below_set ?_ GE393.out)|exact HB.out))))
         (case aL => have:=LMc13.out;have hlx_:=(show ((l1_1.take ((wrap64 ((ji9) + ((rdOf ByteArray.empty l0 (ji6)).size : Int))) : Int).toNat).drop ((ji9) : Int).toNat).length = ((wrap64 ((ji9) + ((rdOf ByteArray.empty l0 (ji6)).size : Int))).toNat - (ji9).toNat) from (by rw [List.length_drop,List.length_take];have h_ : ((wrap64 ((ji9) + ((rdOf ByteArray.empty l0 (ji6)).size : Int))) : Int) ≤ (l1_1.length : Int):=of_decide_eq_true (by first|(with_reducible assumption)|assumption);omega));omega)
         intro v401 w22 ho hb hg hat
         rw [← Ny400.out] at ho
         have n0_:=Aside0.mk (blk_grown (g:=gb392) (o:=.cells #[.int .i64 a1_0,.slice (some ad394) l1_1.length c1_1] 30 (0,0)) (by (with_reducible repeat (first|refine blk_drewN ?_ _|refine blk_drew ?_|refine blk_alloc ?_ _));exact BK392.out) hg (Kd.R_ne HO397.out BK392.out (by decide)))
         have n1_:=Aside0.mk (blk_grown (g:=gb393) (o:=.cells #[.int .i64 0,.slice none 0 0] 40 (0,0)) (by (with_reducible repeat (first|refine blk_drewN ?_ _|refine blk_drew ?_|refine blk_alloc ?_ _));exact BK393.out) hg (Kd.R_ne HO397.out BK393.out (by decide)))
         have n2_:=Aside0.mk (hb)
         have n3_:=Aside0.mk (ho)
         clear BK392
         clear BK393
         clear HB
         clear HO397
         have BK392:=n0_
         have BK393:=n1_
         have HB:=n2_
         have HO402:=n3_
         clear n0_ n1_ n2_ n3_
         clear ho hb hg hat
         obtain ⟨Ao23,co23,eo23⟩:=Kd.R_slice HO402.out
         (first|subst eo23|(injection eo23 with f1_ f2_ f3_;have f4_:=f1_.symm;have f5_:=f3_.symm;clear f1_ f2_ f3_;subst f4_;subst f5_))
         refine hK.out _ _ ⟨(blk_cell BK392.out 0).trans rfl,(blk_cell BK392.out 1).trans rfl,((HB.out.cell (World.block_lt_of_cell? w _ hw398_0)).trans hw398_0)⟩ (fun hHeld => ?_)
         clear hK K
         refine norm_ (a':=?_) ?_ ?_
         rotate_left
         ·show Act.put _ (some 29) _ = _
          simp only [Act.put,List.setIfInBounds_toArray,List.set_cons_zero,List.set_cons_succ,i64_w,i32_w]
          rfl
         refine pure_ (i:=16) (N:=some 30) (v:=?_) (a':=?_) #[true,true,true,true,true,true,true,true,true,true,true,true,true,true,true,true,true,false] rfl rfl (any_of HT_.out (by kernel_rfl)) (fun _ _ _ h => h) (Or.inl ⟨by rfl,?_⟩) ?_ ?_
         rotate_left
         ·intro w'
          go_simp
          with_reducible rfl
         rotate_left
         ·simp only [Act.put,List.setIfInBounds_toArray,List.set_cons_zero,List.set_cons_succ,i64_w,i32_w]
          rfl
         refine one_ (i:=17) (N:=none) #[true,true,true,true,true,true,true,true,true,true,true,true,true,true,true,true,true,true] rfl rfl (one_of HT_.out (by kernel_rfl)) (by decide) (fun K hK => ?_)
         have hs24 : w22.cell? ⟨gb393,0,none⟩ = some (.int .i64 0):=(blk_cell BK393.out 0).trans rfl
         have hfs24:=blk_frozen BK393.out 0
         have hns24_0:=NB392_393.out
         have hms24_0:=NB393_392.out
         have hs25 : w22.cell? ⟨gb393,1,none⟩ = some (.slice none 0 0):=(blk_cell BK393.out 1).trans rfl
         have hfs25:=blk_frozen BK393.out 1
         have hns25_0:=NB392_393.out
         have hms25_0:=NB393_392.out
         refine skip_ (w1:=?_) (by rfl) rfl ?_ ?_
         rotate_left
         ·go_simp
          rfl
         refine hK.out _ _ ⟨((cell_far (p:=⟨gb393,_,none⟩) NB392_393.out _).trans (((cell_far (p:=⟨gb393,_,none⟩) NB392_393.out _).trans (hHeld.1)))),((cell_far (p:=⟨gb393,_,none⟩) NB392_393.out _).trans (((cell_far (p:=⟨gb393,_,none⟩) NB392_393.out _).trans (hHeld.2.1)))),((cell_far (p:=⟨gb393,_,none⟩) (by first|exact Nat.ne_of_lt (Nat.lt_of_lt_of_le (by have:=World.block_lt_of_cell? _ _ hw398_0;first|rwa [add_block] at this|exact this) GW393.out)|(rw [add_block];exact Nat.ne_of_lt (Nat.lt_of_lt_of_le (by have:=World.block_lt_of_cell? _ _ hw398_0;first|rwa [add_block] at this|exact this) GW393.out))|(show (Addr.add _ _).block≠_;rw [add_block];exact Nat.ne_of_lt (Nat.lt_of_lt_of_le (by have:=World.block_lt_of_cell? _ _ hw398_0;first|rwa [add_block] at this|exact this) GW393.out))|(dsimp only;exact Nat.ne_of_lt (Nat.lt_of_lt_of_le (by have:=World.block_lt_of_cell? _ _ hw398_0;first|rwa [add_block] at this|exact this) GW393.out))) _).trans (((cell_far (p:=⟨gb393,_,none⟩) (by first|exact Nat.ne_of_lt (Nat.lt_of_lt_of_le (by have:=World.block_lt_of_cell? _ _ hw398_0;first|rwa [add_block] at this|exact this) GW393.out)|(rw [add_block];exact Nat.ne_of_lt (Nat.lt_of_lt_of_le (by have:=World.block_lt_of_cell? _ _ hw398_0;first|rwa [add_block] at this|exact this) GW393.out))|(show (Addr.add _ _).block≠_;rw [add_block];exact Nat.ne_of_lt (Nat.lt_of_lt_of_le (by have:=World.block_lt_of_cell? _ _ hw398_0;first|rwa [add_block] at this|exact this) GW393.out))|(dsimp only;exact Nat.ne_of_lt (Nat.lt_of_lt_of_le (by have:=World.block_lt_of_cell? _ _ hw398_0;first|rwa [add_block] at this|exact this) GW393.out))) _).trans (hHeld.2.2))))⟩ (fun hHeld => ?_)
         clear hK K
         refine done_ (done_of HT_.out (by kernel_rfl)) ?_
         try go_wp2
         refine bodyPost_ret (results_cell_row rfl _ _ gb393 40 #[.int .i64 ji6,.slice Ao23 y400.length co23] (0,0) _ rfl (by (with_reducible repeat (first|refine blk_drewN ?_ _|refine blk_drew ?_|refine blk_alloc ?_ _));refine blk_put (cs:=#[.int .i64 ji6,.slice none 0 0]) ?_ 1 _ rfl;(with_reducible repeat (first|refine blk_drewN ?_ _|refine blk_drew ?_|refine blk_alloc ?_ _));refine blk_put (cs:=#[.int .i64 0,.slice none 0 0]) ?_ 0 _ rfl;(with_reducible repeat (first|refine blk_drewN ?_ _|refine blk_drew ?_|refine blk_alloc ?_ _));exact BK393.out) Tryd.underlying40 rfl (by kernel_rfl)) rfl ?_
         exact ⟨_,by first|rfl|(simp [errW_none,errW_some] <;> rfl)|(simp only [← hji6,← hji9];first|rfl|(simp [errW_none,errW_some] <;> rfl))|(simp [*,errW_none,errW_some] <;> rfl),by (with_reducible repeat (first|apply Kd.R_alloc|apply Kd.R_drewN|apply Kd.R_drew));exact Kd.R_mono (Kd.R_far (p:=⟨gb393,1,none⟩) (Kd.R_far (p:=⟨gb393,0,none⟩) (Kd.R_types HO402.out BK393.out (by decide)) (fun _ hk => hk.2) (.int .i64 ji6)) (fun _ hk => hk.2) (.slice Ao23 y400.length co23)) (fun _ hk => trivial),by repeat (first|(with_reducible first|exact HB.out|apply below_alloc|apply pw_below_drewN|apply below_drew1|refine below_set ?_ GE392.out|refine below_set ?_ GE393.out)|exact HB.out)⟩
        ·rw [if_neg c13] at H
         exact absurd H (by simp)
       ·rw [if_neg c12] at H
        exact absurd H (by simp)
      ·rw [if_neg c11] at H
       exact absurd H (by simp)
     ·rw [if_neg c10] at H
      exact absurd H (by simp)
    ·rw [if_neg c8] at H
     exact absurd H (by simp)
   ·rw [if_neg c7] at H
    exact absurd H (by simp)
  ·rw [if_neg c5] at H
   exact absurd H (by simp)
 ·rw [if_neg c4] at H
  exact absurd H (by simp)

end Go.Proofs.YtgfeafcgpeclcaaDoor.X
namespace Go.Proofs.YtgfeafcgpeclcaaDoor.X
open Go.RowKit Go.Proofs.YtgfeafcgpeclcaaDoorW.PrintWords Go.Proofs.YtgfeafcgpeclcaaDoorW.PrintLast Go.Proofs.YtgfeafcgpeclcaaDoorW.PrintMore
attribute [local go_sem] max2_int min2_int max_two min_two max_three min_three max_four min_four   -- for this text's walks alone
set_option linter.unusedVariables false
set_option linter.unusedSimpArgs false

/-! ### spec_YoungObject: function 33 -/
def spec_YoungObject.f (k : Nat) (l0 : List ByteArray) (a1_0 : Int) (l1_1 : List Int) (a2 : Int) : Option (Int × List Int × Bool) := (spec_RefKind.f k a2).bind fun t405 => (if t405 = 2 then ((spec_Starts.f k l0 a1_0 l1_1).bind fun t406 => ((spec_l7Place.f k t406 (wrap64 (Int.tdiv a2 2))).bind fun t409 => (if t409 < 0 then (some (0, ([] : List Int), false)) else ((spec_l8Obj.f l0 a1_0 l1_1 (wrap64 (Int.tdiv a2 2))).bind fun bt410 => (some (bt410.1, bt410.2, true)))))) else (some (0, ([] : List Int), false)))
theorem spec_YoungObject.mono : ∀ a0 a1 a2 a3 k, LeO (spec_YoungObject.f k a0 a1 a2 a3) (spec_YoungObject.f (k + 1) a0 a1 a2 a3) := by
 intro a0 a1 a2 a3 k
 unfold spec_YoungObject.f
 repeat' first
   | (with_reducible exact spec_RefKind.mono _ _)
   | (with_reducible exact spec_Starts.mono _ _ _ _)
   | (with_reducible exact spec_l7Place.mono _ _ _)
   | (with_reducible exact LeO.refl _)
   | (with_reducible exact LeO.none _)
   | (with_reducible refine LeO.ite ?_ ?_)
   | (with_reducible refine LeO.bind ?_ (fun _ => ?_))
   | exact spec_RefKind.mono _ _
   | exact spec_Starts.mono _ _ _ _
   | exact spec_l7Place.mono _ _ _
   | exact LeO.none _
   | refine LeO.ite ?_ ?_
   | refine LeO.bind ?_ (fun _ => ?_)
set_option maxHeartbeats 8000000 in
set_option maxRecDepth 100000 in
theorem spec_YoungObject.calls (k : Nat) (A0 : Option Addr) (c0 : Nat) (l0 : List ByteArray) (a1_0 : Int) (A1_1 : Option Addr) (c1_1 : Nat) (l1_1 : List Int) (a2 : Int) (r1 : Int) (r2 : List Int) (r3 : Bool) (w : World) (hr0 : Kd.C Kd.string w A0 l0.length l0) (hc0 : l0.length ≤ c0) (hr1_1 : Kd.C (Kd.int .i64) w A1_1 l1_1.length l1_1) (hc1_1 : l1_1.length ≤ c1_1) (h : spec_YoungObject.f k l0 a1_0 l1_1 a2 = some (r1, r2, r3)) :
  Calls Tryd.prog 33 #[.slice A0 l0.length c0,.agg #[.int .i64 a1_0,.slice A1_1 l1_1.length c1_1],.int .i64 a2] w fun e w' => ∃ v1_ : Value,e = .returned (.tuple #[.agg #[.int .i64 r1,v1_],.bool r3])∧Kd.R (Kd.int .i64) 2 w' w.heap.size (fun _ => True) v1_ r2∧Below w.heap.size w w':=by
 have hu30:=Tryd.underlying30
 have hu40:=Tryd.underlying40
 have HR0:=Aside0.mk hr0
 have HC0:=Aside0.mk hc0
 clear hr0 hc0
 have HR1_1:=Aside0.mk hr1_1
 have HC1_1:=Aside0.mk hc1_1
 clear hr1_1 hc1_1
 have HB:=Aside0.mk (Below.refl w.heap.size w)
 have H : ((spec_RefKind.f k a2).bind fun t405 => (if t405 = 2 then ((spec_Starts.f k l0 a1_0 l1_1).bind fun t406 => ((spec_l7Place.f k t406 (wrap64 (Int.tdiv a2 2))).bind fun t409 => (if t409 < 0 then (some (0,([] : List Int),false)) else ((spec_l8Obj.f l0 a1_0 l1_1 (wrap64 (Int.tdiv a2 2))).bind fun bt410 => (some (bt410.1,bt410.2,true)))))) else (some (0,([] : List Int),false)))) = some (r1,r2,r3):=h
 clear h
 replace H:=Option.bind_eq_some_iff.mp H
 obtain ⟨t405,A40,H⟩:=H
 try dsimp only at H
 have A4:=Aside0.mk A40
 clear A40
 by_cases c5 : t405 = 2
 ·rw [if_pos c5] at H
  have c5b0 : (t405 == 2) = true:=beq_iff_eq.mpr c5
  have c5b1 : (t405 != 2) = false:=bne_eq_false_iff_eq.mpr c5
  clear c5
  replace H:=Option.bind_eq_some_iff.mp H
  obtain ⟨t406,A60,H⟩:=H
  try dsimp only at H
  have A6:=Aside0.mk A60
  clear A60
  replace H:=Option.bind_eq_some_iff.mp H
  obtain ⟨t409,A70,H⟩:=H
  try dsimp only at H
  have A7:=Aside0.mk A70
  clear A70
  by_cases c8 : t409 < 0
  ·rw [if_pos c8] at H
   have c8b0 : decide (t409 < 0) = true:=decide_eq_true c8
   clear c8
   simp only [Option.some.injEq,Prod.mk.injEq] at H
   obtain ⟨rfl,rfl,rfl⟩:=H
   go_enter Tryd.func33,Tryd.ntmps33
   go_wp2_with (first|((with_reducible refine gate_dst (N:=4) rfl ?_);refine box_event ?hg (N:=4) ?hd (cs:=#[.int .i64 a1_0,.slice A1_1 l1_1.length c1_1]) (t:=30) ?hr ?_;(case hd => rfl);(case hg => rfl);(case hr => first|(go_simp;done)|(go_simp;rfl));intro gb403 hg w9 hbox hb;have n0_:=Aside0.mk (below_step (by repeat (first|(with_reducible first|exact HB.out|apply below_alloc|apply pw_below_drewN|apply below_drew1)|exact HB.out)) hb);have n1_:=Aside0.mk (hbox);have n2_:=Aside0.mk ((by rw [hg];exact (below_size (by repeat (first|(with_reducible first|exact HB.out|apply below_alloc|apply pw_below_drewN|apply below_drew1)|exact HB.out))) : w.heap.size ≤ gb403));have n3_:=Aside0.mk ((by rw [hg];exact (below_size (by repeat (first|(with_reducible first|exact HB.out|apply below_alloc|apply pw_below_drewN|apply below_drew1)|exact HB.out))) : w.heap.size ≤ gb403));clear HB;have HB:=n0_;have BK403:=n1_;have GW403:=n2_;have GE403:=n3_;clear n0_ n1_ n2_ n3_;clear hb hbox hg)|((with_reducible refine gate_dst (N:=6) rfl ?_);refine box_event ?hg (N:=6) ?hd (cs:=#[.int .i64 0,.slice none 0 0]) (t:=40) ?hr ?_;(case hd => rfl);(case hg => rfl);(case hr => first|(go_simp;done)|(go_simp;rfl));intro gb404 hg w10 hbox hb;have n0_:=Aside0.mk (blk_below (g:=gb403) (o:=.cells #[.int .i64 a1_0,.slice A1_1 l1_1.length c1_1] 30 (0,0)) (by (with_reducible repeat (first|refine blk_drewN ?_ _|refine blk_drew ?_|refine blk_alloc ?_ _));exact BK403.out) hb);have n1_:=Aside0.mk (below_step (by repeat (first|(with_reducible first|exact HB.out|apply below_alloc|apply pw_below_drewN|apply below_drew1|refine below_set ?_ GE403.out)|exact HB.out)) hb);have n2_:=Aside0.mk (hbox);have n3_:=Aside0.mk ((by rw [hg];exact (below_size (by repeat (first|(with_reducible first|exact HB.out|apply below_alloc|apply pw_below_drewN|apply below_drew1|refine below_set ?_ GE403.out)|exact HB.out))) : w.heap.size ≤ gb404));have n4_:=Aside0.mk ((by rw [hg];exact (below_size (by repeat (first|(with_reducible first|exact HB.out|apply below_alloc|apply pw_below_drewN|apply below_drew1|refine below_set ?_ GE403.out)|exact HB.out))) : w.heap.size ≤ gb404));have n5_:=Aside0.mk ((by rw [hg];exact Nat.ne_of_lt (blk_lt (g:=gb403) (o:=.cells #[.int .i64 a1_0,.slice A1_1 l1_1.length c1_1] 30 (0,0)) (by (with_reducible repeat (first|refine blk_drewN ?_ _|refine blk_drew ?_|refine blk_alloc ?_ _));exact BK403.out)) : gb403≠gb404));have n6_:=Aside0.mk ((by rw [hg];exact Nat.ne_of_gt (blk_lt (g:=gb403) (o:=.cells #[.int .i64 a1_0,.slice A1_1 l1_1.length c1_1] 30 (0,0)) (by (with_reducible repeat (first|refine blk_drewN ?_ _|refine blk_drew ?_|refine blk_alloc ?_ _));exact BK403.out)) : gb404≠gb403));clear BK403 HB;have BK403:=n0_;have HB:=n1_;have BK404:=n2_;have GW404:=n3_;have GE404:=n4_;have NB403_404:=n5_;have NB404_403:=n6_;clear n0_ n1_ n2_ n3_ n4_ n5_ n6_;clear hb hbox hg)|((with_reducible refine gate_callee (f:=62) rfl ?_);refine goesL_ (some 9) rfl rfl Tryd.func62 (by kernel_rfl) rfl #[.int .i64 a2] rfl (by (try simp only [List.map_toArray,List.map_cons,List.map_nil]);first|done|rfl|(simp only [List.length_drop,List.length_take];rfl)) ?_;(with_reducible refine (spec_RefKind.calls k a2 t405 _ A4.out).mono ?_);rintro e w' ⟨rfl,⟨nd,rfl⟩⟩;refine ⟨_,rfl,?_⟩;(try (rw [drewN_self w10];generalize hq_ : World.drewN w10 _ = w10;have n0_ : Aside0 (w10.heap[gb403]? = some (.cells #[.int .i64 a1_0,.slice A1_1 l1_1.length c1_1] 30 (0,0))):=⟨by rw [← hq_];exact (by (with_reducible repeat (first|refine blk_drewN ?_ _|refine blk_drew ?_|refine blk_alloc ?_ _));exact BK403.out)⟩;have n1_ : Aside0 (w10.heap[gb404]? = some (.cells #[.int .i64 0,.slice none 0 0] 40 (0,0))):=⟨by rw [← hq_];exact (by (with_reducible repeat (first|refine blk_drewN ?_ _|refine blk_drew ?_|refine blk_alloc ?_ _));exact BK404.out)⟩;have n2_ : Aside0 (Below w.heap.size w w10):=⟨by rw [← hq_];exact (by repeat (first|(with_reducible first|exact HB.out|apply below_alloc|apply pw_below_drewN|apply below_drew1|refine below_set ?_ GE403.out|refine below_set ?_ GE404.out)|exact HB.out))⟩;clear BK403 BK404 HB hq_;have BK403:=n0_;have BK404:=n1_;have HB:=n2_;clear n0_ n1_ n2_));have hnb11:=NB403_404.out;have hnc11:=NB404_403.out;have hcz12_0 : w10.cell? ⟨gb403,0,none⟩ = some (.int .i64 a1_0):=(blk_cell BK403.out 0).trans rfl;have hcz12_1 : w10.cell? ⟨gb403,1,none⟩ = some (.slice A1_1 l1_1.length c1_1):=(blk_cell BK403.out 1).trans rfl;have hfz12_0:=blk_frozen BK403.out 0;have hfz12_1:=blk_frozen BK403.out 1)|(go_at_call 24;(with_reducible refine (spec_Starts.calls k _ _ l0 a1_0 _ _ l1_1 t406 _ ?side1 ?side2 ?side3 ?side4 A6.out).mono ?_);(case side1 => repeat (first|exact (Kd.C_below HR0.out HB.out)|(with_reducible first|refine Kd.C_alloc ?_ _|refine Kd.C_drewN ?_ _|refine Kd.C_drew ?_)));(case side2 => exact HC0.out);(case side3 => repeat (first|exact (Kd.C_below HR1_1.out HB.out)|(with_reducible first|refine Kd.C_alloc ?_ _|refine Kd.C_drewN ?_ _|refine Kd.C_drew ?_)));(case side4 => exact HC1_1.out);rintro e w13 ⟨v407,rfl,ho0,hb⟩;have n0_:=Aside0.mk (Kd.R_lower ho0 (below_size (by repeat (first|(with_reducible first|exact HB.out|apply below_alloc|apply pw_below_drewN|apply below_drew1|refine below_set ?_ GE403.out|refine below_set ?_ GE404.out)|exact HB.out))));have n1_:=Aside0.mk (blk_below (g:=gb403) (o:=.cells #[.int .i64 a1_0,.slice A1_1 l1_1.length c1_1] 30 (0,0)) (by (with_reducible repeat (first|refine blk_drewN ?_ _|refine blk_drew ?_|refine blk_alloc ?_ _));exact BK403.out) hb);have n2_:=Aside0.mk (blk_below (g:=gb404) (o:=.cells #[.int .i64 0,.slice none 0 0] 40 (0,0)) (by (with_reducible repeat (first|refine blk_drewN ?_ _|refine blk_drew ?_|refine blk_alloc ?_ _));exact BK404.out) hb);have n3_:=Aside0.mk (below_step (by repeat (first|(with_reducible first|exact HB.out|apply below_alloc|apply pw_below_drewN|apply below_drew1|refine below_set ?_ GE403.out|refine below_set ?_ GE404.out)|exact HB.out)) hb);clear BK403 BK404 HB;have HO408:=n0_;have BK403:=n1_;have BK404:=n2_;have HB:=n3_;clear n0_ n1_ n2_ n3_;(try clear hb);(try clear hb2);(try clear hk);(try clear hi);(try clear ho0);obtain ⟨Ao14,co14,eo14⟩:=Kd.R_slice HO408.out;subst eo14)|(go_at_call 63;(with_reducible refine (spec_l7Place.calls k _ _ t406 (wrap64 (Int.tdiv a2 2)) t409 _ ?side1 ?side2 A7.out).mono ?_);(case side1 => repeat (first|exact (Kd.R_reads' HO408.out).2.2|(with_reducible first|refine Kd.C_alloc ?_ _|refine Kd.C_drewN ?_ _|refine Kd.C_drew ?_)));(case side2 => exact (Kd.R_reads' HO408.out).2.1);rintro e w' ⟨rfl,⟨nd,rfl⟩⟩;(try (rw [drewN_self w13];generalize hq_ : World.drewN w13 _ = w13;have n0_ : Aside0 (Kd.R (Kd.int .i64) 2 w13 w.heap.size (fun _ => True) (.slice Ao14 t406.length co14) t406):=⟨by rw [← hq_];exact (by (with_reducible repeat (first|apply Kd.R_alloc|apply Kd.R_drewN|apply Kd.R_drew));exact HO408.out)⟩;have n1_ : Aside0 (w13.heap[gb403]? = some (.cells #[.int .i64 a1_0,.slice A1_1 l1_1.length c1_1] 30 (0,0))):=⟨by rw [← hq_];exact (by (with_reducible repeat (first|refine blk_drewN ?_ _|refine blk_drew ?_|refine blk_alloc ?_ _));exact BK403.out)⟩;have n2_ : Aside0 (w13.heap[gb404]? = some (.cells #[.int .i64 0,.slice none 0 0] 40 (0,0))):=⟨by rw [← hq_];exact (by (with_reducible repeat (first|refine blk_drewN ?_ _|refine blk_drew ?_|refine blk_alloc ?_ _));exact BK404.out)⟩;have n3_ : Aside0 (Below w.heap.size w w13):=⟨by rw [← hq_];exact (by repeat (first|(with_reducible first|exact HB.out|apply below_alloc|apply pw_below_drewN|apply below_drew1|refine below_set ?_ GE403.out|refine below_set ?_ GE404.out)|exact HB.out))⟩;clear HO408 BK403 BK404 HB hq_;have HO408:=n0_;have BK403:=n1_;have BK404:=n2_;have HB:=n3_;clear n0_ n1_ n2_ n3_));have hcz15_0 : w13.cell? ⟨gb404,0,none⟩ = some (.int .i64 0):=(blk_cell BK404.out 0).trans rfl;have hcz15_1 : w13.cell? ⟨gb404,1,none⟩ = some (.slice none 0 0):=(blk_cell BK404.out 1).trans rfl;have hfz15_0:=blk_frozen BK404.out 0;have hfz15_1:=blk_frozen BK404.out 1))
   refine bodyPost_ret (results_ct rfl _ _ gb404 40 #[.int .i64 0,.slice none 0 0] (0,0) _ rfl (by (with_reducible repeat (first|refine blk_drewN ?_ _|refine blk_drew ?_|refine blk_alloc ?_ _));refine blk_put (cs:=#[.int .i64 0,.slice none 0 0]) ?_ 1 _ rfl;(with_reducible repeat (first|refine blk_drewN ?_ _|refine blk_drew ?_|refine blk_alloc ?_ _));refine blk_put (cs:=#[.int .i64 0,.slice none 0 0]) ?_ 0 _ rfl;(with_reducible repeat (first|refine blk_drewN ?_ _|refine blk_drew ?_|refine blk_alloc ?_ _));exact BK404.out) Tryd.underlying40 rfl (by kernel_rfl)) rfl ?_
   exact ⟨_,by first|rfl|(simp [errW_none,errW_some] <;> rfl)|(simp [*,errW_none,errW_some] <;> rfl),by first|exact Kd.R_nil _ _ _ _ _|exact Kd.N_nil _ _ _ _ _|exact Kd.V_nil _ _ _ _ _|exact Kd.Q_nil _ _ _ _ _|exact Kd.S_nil _ _ _ _ _,by repeat (first|(with_reducible first|exact HB.out|apply below_alloc|apply pw_below_drewN|apply below_drew1|refine below_set ?_ GE403.out|refine below_set ?_ GE404.out)|exact HB.out)⟩
  ·rw [if_neg c8] at H
   have c8b0 : decide (t409 < 0) = false:=decide_eq_false c8
   clear c8
   replace H:=Option.bind_eq_some_iff.mp H
   obtain ⟨⟨t410,t411⟩,A160,H⟩:=H
   try dsimp only at H
   have A16:=Aside0.mk A160
   clear A160
   simp only [Option.some.injEq,Prod.mk.injEq] at H
   obtain ⟨rfl,rfl,rfl⟩:=H
   go_enter Tryd.func33,Tryd.ntmps33
   go_wp2_with (first|((with_reducible refine gate_dst (N:=4) rfl ?_);refine box_event ?hg (N:=4) ?hd (cs:=#[.int .i64 a1_0,.slice A1_1 l1_1.length c1_1]) (t:=30) ?hr ?_;(case hd => rfl);(case hg => rfl);(case hr => first|(go_simp;done)|(go_simp;rfl));intro gb403 hg w17 hbox hb;have n0_:=Aside0.mk (below_step (by repeat (first|(with_reducible first|exact HB.out|apply below_alloc|apply pw_below_drewN|apply below_drew1)|exact HB.out)) hb);have n1_:=Aside0.mk (hbox);have n2_:=Aside0.mk ((by rw [hg];exact (below_size (by repeat (first|(with_reducible first|exact HB.out|apply below_alloc|apply pw_below_drewN|apply below_drew1)|exact HB.out))) : w.heap.size ≤ gb403));have n3_:=Aside0.mk ((by rw [hg];exact (below_size (by repeat (first|(with_reducible first|exact HB.out|apply below_alloc|apply pw_below_drewN|apply below_drew1)|exact HB.out))) : w.heap.size ≤ gb403));clear HB;have HB:=n0_;have BK403:=n1_;have GW403:=n2_;have GE403:=n3_;clear n0_ n1_ n2_ n3_;clear hb hbox hg)|((with_reducible refine gate_dst (N:=6) rfl ?_);refine box_event ?hg (N:=6) ?hd (cs:=#[.int .i64 0,.slice none 0 0]) (t:=40) ?hr ?_;(case hd => rfl);(case hg => rfl);(case hr => first|(go_simp;done)|(go_simp;rfl));intro gb404 hg w18 hbox hb;have n0_:=Aside0.mk (blk_below (g:=gb403) (o:=.cells #[.int .i64 a1_0,.slice A1_1 l1_1.length c1_1] 30 (0,0)) (by (with_reducible repeat (first|refine blk_drewN ?_ _|refine blk_drew ?_|refine blk_alloc ?_ _));exact BK403.out) hb);have n1_:=Aside0.mk (below_step (by repeat (first|(with_reducible first|exact HB.out|apply below_alloc|apply pw_below_drewN|apply below_drew1|refine below_set ?_ GE403.out)|exact HB.out)) hb);have n2_:=Aside0.mk (hbox);have n3_:=Aside0.mk ((by rw [hg];exact (below_size (by repeat (first|(with_reducible first|exact HB.out|apply below_alloc|apply pw_below_drewN|apply below_drew1|refine below_set ?_ GE403.out)|exact HB.out))) : w.heap.size ≤ gb404));have n4_:=Aside0.mk ((by rw [hg];exact (below_size (by repeat (first|(with_reducible first|exact HB.out|apply below_alloc|apply pw_below_drewN|apply below_drew1|refine below_set ?_ GE403.out)|exact HB.out))) : w.heap.size ≤ gb404));have n5_:=Aside0.mk ((by rw [hg];exact Nat.ne_of_lt (blk_lt (g:=gb403) (o:=.cells #[.int .i64 a1_0,.slice A1_1 l1_1.length c1_1] 30 (0,0)) (by (with_reducible repeat (first|refine blk_drewN ?_ _|refine blk_drew ?_|refine blk_alloc ?_ _));exact BK403.out)) : gb403≠gb404));have n6_:=Aside0.mk ((by rw [hg];exact Nat.ne_of_gt (blk_lt (g:=gb403) (o:=.cells #[.int .i64 a1_0,.slice A1_1 l1_1.length c1_1] 30 (0,0)) (by (with_reducible repeat (first|refine blk_drewN ?_ _|refine blk_drew ?_|refine blk_alloc ?_ _));exact BK403.out)) : gb404≠gb403));clear BK403 HB;have BK403:=n0_;have HB:=n1_;have BK404:=n2_;have GW404:=n3_;have GE404:=n4_;have NB403_404:=n5_;have NB404_403:=n6_;clear n0_ n1_ n2_ n3_ n4_ n5_ n6_;clear hb hbox hg)|((with_reducible refine gate_callee (f:=62) rfl ?_);refine goesL_ (some 9) rfl rfl Tryd.func62 (by kernel_rfl) rfl #[.int .i64 a2] rfl (by (try simp only [List.map_toArray,List.map_cons,List.map_nil]);first|done|rfl|(simp only [List.length_drop,List.length_take];rfl)) ?_;(with_reducible refine (spec_RefKind.calls k a2 t405 _ A4.out).mono ?_);rintro e w' ⟨rfl,⟨nd,rfl⟩⟩;refine ⟨_,rfl,?_⟩;(try (rw [drewN_self w18];generalize hq_ : World.drewN w18 _ = w18;have n0_ : Aside0 (w18.heap[gb403]? = some (.cells #[.int .i64 a1_0,.slice A1_1 l1_1.length c1_1] 30 (0,0))):=⟨by rw [← hq_];exact (by (with_reducible repeat (first|refine blk_drewN ?_ _|refine blk_drew ?_|refine blk_alloc ?_ _));exact BK403.out)⟩;have n1_ : Aside0 (w18.heap[gb404]? = some (.cells #[.int .i64 0,.slice none 0 0] 40 (0,0))):=⟨by rw [← hq_];exact (by (with_reducible repeat (first|refine blk_drewN ?_ _|refine blk_drew ?_|refine blk_alloc ?_ _));exact BK404.out)⟩;have n2_ : Aside0 (Below w.heap.size w w18):=⟨by rw [← hq_];exact (by repeat (first|(with_reducible first|exact HB.out|apply below_alloc|apply pw_below_drewN|apply below_drew1|refine below_set ?_ GE403.out|refine below_set ?_ GE404.out)|exact HB.out))⟩;clear BK403 BK404 HB hq_;have BK403:=n0_;have BK404:=n1_;have HB:=n2_;clear n0_ n1_ n2_));have hnb19:=NB403_404.out;have hnc19:=NB404_403.out;have hcz20_0 : w18.cell? ⟨gb403,0,none⟩ = some (.int .i64 a1_0):=(blk_cell BK403.out 0).trans rfl;have hcz20_1 : w18.cell? ⟨gb403,1,none⟩ = some (.slice A1_1 l1_1.length c1_1):=(blk_cell BK403.out 1).trans rfl;have hfz20_0:=blk_frozen BK403.out 0;have hfz20_1:=blk_frozen BK403.out 1)|(go_at_call 24;(with_reducible refine (spec_Starts.calls k _ _ l0 a1_0 _ _ l1_1 t406 _ ?side1 ?side2 ?side3 ?side4 A6.out).mono ?_);(case side1 => repeat (first|exact (Kd.C_below HR0.out HB.out)|(with_reducible first|refine Kd.C_alloc ?_ _|refine Kd.C_drewN ?_ _|refine Kd.C_drew ?_)));(case side2 => exact HC0.out);(case side3 => repeat (first|exact (Kd.C_below HR1_1.out HB.out)|(with_reducible first|refine Kd.C_alloc ?_ _|refine Kd.C_drewN ?_ _|refine Kd.C_drew ?_)));(case side4 => exact HC1_1.out);rintro e w21 ⟨v407,rfl,ho0,hb⟩;have n0_:=Aside0.mk (Kd.R_lower ho0 (below_size (by repeat (first|(with_reducible first|exact HB.out|apply below_alloc|apply pw_below_drewN|apply below_drew1|refine below_set ?_ GE403.out|refine below_set ?_ GE404.out)|exact HB.out))));have n1_:=Aside0.mk (blk_below (g:=gb403) (o:=.cells #[.int .i64 a1_0,.slice A1_1 l1_1.length c1_1] 30 (0,0)) (by (with_reducible repeat (first|refine blk_drewN ?_ _|refine blk_drew ?_|refine blk_alloc ?_ _));exact BK403.out) hb);have n2_:=Aside0.mk (blk_below (g:=gb404) (o:=.cells #[.int .i64 0,.slice none 0 0] 40 (0,0)) (by (with_reducible repeat (first|refine blk_drewN ?_ _|refine blk_drew ?_|refine blk_alloc ?_ _));exact BK404.out) hb);have n3_:=Aside0.mk (below_step (by repeat (first|(with_reducible first|exact HB.out|apply below_alloc|apply pw_below_drewN|apply below_drew1|refine below_set ?_ GE403.out|refine below_set ?_ GE404.out)|exact HB.out)) hb);clear BK403 BK404 HB;have HO408:=n0_;have BK403:=n1_;have BK404:=n2_;have HB:=n3_;clear n0_ n1_ n2_ n3_;(try clear hb);(try clear hb2);(try clear hk);(try clear hi);(try clear ho0);obtain ⟨Ao22,co22,eo22⟩:=Kd.R_slice HO408.out;subst eo22)|(go_at_call 63;(with_reducible refine (spec_l7Place.calls k _ _ t406 (wrap64 (Int.tdiv a2 2)) t409 _ ?side1 ?side2 A7.out).mono ?_);(case side1 => repeat (first|exact (Kd.R_reads' HO408.out).2.2|(with_reducible first|refine Kd.C_alloc ?_ _|refine Kd.C_drewN ?_ _|refine Kd.C_drew ?_)));(case side2 => exact (Kd.R_reads' HO408.out).2.1);rintro e w' ⟨rfl,⟨nd,rfl⟩⟩;(try (rw [drewN_self w21];generalize hq_ : World.drewN w21 _ = w21;have n0_ : Aside0 (Kd.R (Kd.int .i64) 2 w21 w.heap.size (fun _ => True) (.slice Ao22 t406.length co22) t406):=⟨by rw [← hq_];exact (by (with_reducible repeat (first|apply Kd.R_alloc|apply Kd.R_drewN|apply Kd.R_drew));exact HO408.out)⟩;have n1_ : Aside0 (w21.heap[gb403]? = some (.cells #[.int .i64 a1_0,.slice A1_1 l1_1.length c1_1] 30 (0,0))):=⟨by rw [← hq_];exact (by (with_reducible repeat (first|refine blk_drewN ?_ _|refine blk_drew ?_|refine blk_alloc ?_ _));exact BK403.out)⟩;have n2_ : Aside0 (w21.heap[gb404]? = some (.cells #[.int .i64 0,.slice none 0 0] 40 (0,0))):=⟨by rw [← hq_];exact (by (with_reducible repeat (first|refine blk_drewN ?_ _|refine blk_drew ?_|refine blk_alloc ?_ _));exact BK404.out)⟩;have n3_ : Aside0 (Below w.heap.size w w21):=⟨by rw [← hq_];exact (by repeat (first|(with_reducible first|exact HB.out|apply below_alloc|apply pw_below_drewN|apply below_drew1|refine below_set ?_ GE403.out|refine below_set ?_ GE404.out)|exact HB.out))⟩;clear HO408 BK403 BK404 HB hq_;have HO408:=n0_;have BK403:=n1_;have BK404:=n2_;have HB:=n3_;clear n0_ n1_ n2_ n3_));have hcz23_0 : w21.cell? ⟨gb403,0,none⟩ = some (.int .i64 a1_0):=(blk_cell BK403.out 0).trans rfl;have hcz23_1 : w21.cell? ⟨gb403,1,none⟩ = some (.slice A1_1 l1_1.length c1_1):=(blk_cell BK403.out 1).trans rfl;have hfz23_0:=blk_frozen BK403.out 0;have hfz23_1:=blk_frozen BK403.out 1)|((with_reducible refine gate_callee (f:=64) rfl ?_);refine goesL_ (some 25) rfl rfl Tryd.func64 (by kernel_rfl) rfl #[.slice A0 l0.length c0,.agg #[.int .i64 a1_0,.slice A1_1 l1_1.length c1_1],.int .i64 (wrap64 (Int.tdiv a2 2))] rfl (by (try simp only [List.map_toArray,List.map_cons,List.map_nil]);first|done|rfl|(simp only [List.length_drop,List.length_take];rfl)) ?_;(with_reducible refine (spec_l8Obj.calls _ _ l0 a1_0 _ _ l1_1 (wrap64 (Int.tdiv a2 2)) t410 t411 _ ?side1 ?side2 ?side3 ?side4 A16.out).mono ?_);(case side1 => repeat (first|exact (Kd.C_below HR0.out HB.out)|(with_reducible first|refine Kd.C_alloc ?_ _|refine Kd.C_drewN ?_ _|refine Kd.C_drew ?_)));(case side2 => exact HC0.out);(case side3 => repeat (first|exact (Kd.C_below HR1_1.out HB.out)|(with_reducible first|refine Kd.C_alloc ?_ _|refine Kd.C_drewN ?_ _|refine Kd.C_drew ?_)));(case side4 => exact HC1_1.out);rintro e w24 ⟨v412,rfl,ho0,hb⟩;refine ⟨_,rfl,?_⟩;have n0_:=Aside0.mk (Kd.R_elder' (by (with_reducible repeat (first|apply Kd.R_alloc|apply Kd.R_drewN|apply Kd.R_drew));exact HO408.out) (Kd.R_base ho0) hb);have n1_:=Aside0.mk (Kd.R_lower (Kd.R_new' ho0 (Kd.R_lt (by (with_reducible repeat (first|apply Kd.R_alloc|apply Kd.R_drewN|apply Kd.R_drew));exact HO408.out))) (below_size (by repeat (first|(with_reducible first|exact HB.out|apply below_alloc|apply pw_below_drewN|apply below_drew1|refine below_set ?_ GE403.out|refine below_set ?_ GE404.out)|exact HB.out))));have n2_:=Aside0.mk (blk_below (g:=gb403) (o:=.cells #[.int .i64 a1_0,.slice A1_1 l1_1.length c1_1] 30 (0,0)) (by (with_reducible repeat (first|refine blk_drewN ?_ _|refine blk_drew ?_|refine blk_alloc ?_ _));exact BK403.out) hb);have n3_:=Aside0.mk (blk_below (g:=gb404) (o:=.cells #[.int .i64 0,.slice none 0 0] 40 (0,0)) (by (with_reducible repeat (first|refine blk_drewN ?_ _|refine blk_drew ?_|refine blk_alloc ?_ _));exact BK404.out) hb);have n4_:=Aside0.mk (below_step (by repeat (first|(with_reducible first|exact HB.out|apply below_alloc|apply pw_below_drewN|apply below_drew1|refine below_set ?_ GE403.out|refine below_set ?_ GE404.out)|exact HB.out)) hb);clear HO408 BK403 BK404 HB;have HO408:=n0_;have HO413:=n1_;have BK403:=n2_;have BK404:=n3_;have HB:=n4_;clear n0_ n1_ n2_ n3_ n4_;(try clear hb);(try clear hb2);(try clear hk);(try clear hi);(try clear ho0);have hcz25_0 : w24.cell? ⟨gb404,0,none⟩ = some (.int .i64 0):=(blk_cell BK404.out 0).trans rfl;have hcz25_1 : w24.cell? ⟨gb404,1,none⟩ = some (.slice none 0 0):=(blk_cell BK404.out 1).trans rfl;have hfz25_0:=blk_frozen BK404.out 0;have hfz25_1:=blk_frozen BK404.out 1;obtain ⟨Ao26,co26,eo26⟩:=Kd.R_slice HO413.out;subst eo26))
   refine bodyPost_ret (results_ct rfl _ _ gb404 40 #[.int .i64 t410,.slice Ao26 t411.length co26] (0,0) _ rfl (by (with_reducible repeat (first|refine blk_drewN ?_ _|refine blk_drew ?_|refine blk_alloc ?_ _));refine blk_put (cs:=#[.int .i64 t410,.slice none 0 0]) ?_ 1 _ rfl;(with_reducible repeat (first|refine blk_drewN ?_ _|refine blk_drew ?_|refine blk_alloc ?_ _));refine blk_put (cs:=#[.int .i64 0,.slice none 0 0]) ?_ 0 _ rfl;(with_reducible repeat (first|refine blk_drewN ?_ _|refine blk_drew ?_|refine blk_alloc ?_ _));exact BK404.out) Tryd.underlying40 rfl (by kernel_rfl)) rfl ?_
   exact ⟨_,by first|rfl|(simp [errW_none,errW_some] <;> rfl)|(simp [*,errW_none,errW_some] <;> rfl),by (with_reducible repeat (first|apply Kd.R_alloc|apply Kd.R_drewN|apply Kd.R_drew));exact Kd.R_mono (Kd.R_far (p:=⟨gb404,1,none⟩) (Kd.R_far (p:=⟨gb404,0,none⟩) (Kd.R_types HO413.out BK404.out (by decide)) (fun _ hk => hk.2) (.int .i64 t410)) (fun _ hk => hk.2) (.slice Ao26 t411.length co26)) (fun _ hk => trivial),by repeat (first|(with_reducible first|exact HB.out|apply below_alloc|apply pw_below_drewN|apply below_drew1|refine below_set ?_ GE403.out|refine below_set ?_ GE404.out)|exact HB.out)⟩
 ·rw [if_neg c5] at H
  have c5b0 : (t405 == 2) = false:=beq_eq_false_iff_ne.mpr c5
  have c5b1 : (t405 != 2) = true:=bne_iff_ne.mpr c5
  simp only [Option.some.injEq,Prod.mk.injEq] at H
  obtain ⟨rfl,rfl,rfl⟩:=H
  go_enter Tryd.func33,Tryd.ntmps33
  go_wp2_with (first|((with_reducible refine gate_dst (N:=4) rfl ?_);refine box_event ?hg (N:=4) ?hd (cs:=#[.int .i64 a1_0,.slice A1_1 l1_1.length c1_1]) (t:=30) ?hr ?_;(case hd => rfl);(case hg => rfl);(case hr => first|(go_simp;done)|(go_simp;rfl));intro gb403 hg w27 hbox hb;have n0_:=Aside0.mk (below_step (by repeat (first|(with_reducible first|exact HB.out|apply below_alloc|apply pw_below_drewN|apply below_drew1)|exact HB.out)) hb);have n1_:=Aside0.mk (hbox);have n2_:=Aside0.mk ((by rw [hg];exact (below_size (by repeat (first|(with_reducible first|exact HB.out|apply below_alloc|apply pw_below_drewN|apply below_drew1)|exact HB.out))) : w.heap.size ≤ gb403));have n3_:=Aside0.mk ((by rw [hg];exact (below_size (by repeat (first|(with_reducible first|exact HB.out|apply below_alloc|apply pw_below_drewN|apply below_drew1)|exact HB.out))) : w.heap.size ≤ gb403));clear HB;have HB:=n0_;have BK403:=n1_;have GW403:=n2_;have GE403:=n3_;clear n0_ n1_ n2_ n3_;clear hb hbox hg)|((with_reducible refine gate_dst (N:=6) rfl ?_);refine box_event ?hg (N:=6) ?hd (cs:=#[.int .i64 0,.slice none 0 0]) (t:=40) ?hr ?_;(case hd => rfl);(case hg => rfl);(case hr => first|(go_simp;done)|(go_simp;rfl));intro gb404 hg w28 hbox hb;have n0_:=Aside0.mk (blk_below (g:=gb403) (o:=.cells #[.int .i64 a1_0,.slice A1_1 l1_1.length c1_1] 30 (0,0)) (by (with_reducible repeat (first|refine blk_drewN ?_ _|refine blk_drew ?_|refine blk_alloc ?_ _));exact BK403.out) hb);have n1_:=Aside0.mk (below_step (by repeat (first|(with_reducible first|exact HB.out|apply below_alloc|apply pw_below_drewN|apply below_drew1|refine below_set ?_ GE403.out)|exact HB.out)) hb);have n2_:=Aside0.mk (hbox);have n3_:=Aside0.mk ((by rw [hg];exact (below_size (by repeat (first|(with_reducible first|exact HB.out|apply below_alloc|apply pw_below_drewN|apply below_drew1|refine below_set ?_ GE403.out)|exact HB.out))) : w.heap.size ≤ gb404));have n4_:=Aside0.mk ((by rw [hg];exact (below_size (by repeat (first|(with_reducible first|exact HB.out|apply below_alloc|apply pw_below_drewN|apply below_drew1|refine below_set ?_ GE403.out)|exact HB.out))) : w.heap.size ≤ gb404));have n5_:=Aside0.mk ((by rw [hg];exact Nat.ne_of_lt (blk_lt (g:=gb403) (o:=.cells #[.int .i64 a1_0,.slice A1_1 l1_1.length c1_1] 30 (0,0)) (by (with_reducible repeat (first|refine blk_drewN ?_ _|refine blk_drew ?_|refine blk_alloc ?_ _));exact BK403.out)) : gb403≠gb404));have n6_:=Aside0.mk ((by rw [hg];exact Nat.ne_of_gt (blk_lt (g:=gb403) (o:=.cells #[.int .i64 a1_0,.slice A1_1 l1_1.length c1_1] 30 (0,0)) (by (with_reducible repeat (first|refine blk_drewN ?_ _|refine blk_drew ?_|refine blk_alloc ?_ _));exact BK403.out)) : gb404≠gb403));clear BK403 HB;have BK403:=n0_;have HB:=n1_;have BK404:=n2_;have GW404:=n3_;have GE404:=n4_;have NB403_404:=n5_;have NB404_403:=n6_;clear n0_ n1_ n2_ n3_ n4_ n5_ n6_;clear hb hbox hg)|((with_reducible refine gate_callee (f:=62) rfl ?_);refine goesL_ (some 9) rfl rfl Tryd.func62 (by kernel_rfl) rfl #[.int .i64 a2] rfl (by (try simp only [List.map_toArray,List.map_cons,List.map_nil]);first|done|rfl|(simp only [List.length_drop,List.length_take];rfl)) ?_;(with_reducible refine (spec_RefKind.calls k a2 t405 _ A4.out).mono ?_);rintro e w' ⟨rfl,⟨nd,rfl⟩⟩;refine ⟨_,rfl,?_⟩;(try (rw [drewN_self w28];generalize hq_ : World.drewN w28 _ = w28;have n0_ : Aside0 (w28.heap[gb403]? = some (.cells #[.int .i64 a1_0,.slice A1_1 l1_1.length c1_1] 30 (0,0))):=⟨by rw [← hq_];exact (by (with_reducible repeat (first|refine blk_drewN ?_ _|refine blk_drew ?_|refine blk_alloc ?_ _));exact BK403.out)⟩;have n1_ : Aside0 (w28.heap[gb404]? = some (.cells #[.int .i64 0,.slice none 0 0] 40 (0,0))):=⟨by rw [← hq_];exact (by (with_reducible repeat (first|refine blk_drewN ?_ _|refine blk_drew ?_|refine blk_alloc ?_ _));exact BK404.out)⟩;have n2_ : Aside0 (Below w.heap.size w w28):=⟨by rw [← hq_];exact (by repeat (first|(with_reducible first|exact HB.out|apply below_alloc|apply pw_below_drewN|apply below_drew1|refine below_set ?_ GE403.out|refine below_set ?_ GE404.out)|exact HB.out))⟩;clear BK403 BK404 HB hq_;have BK403:=n0_;have BK404:=n1_;have HB:=n2_;clear n0_ n1_ n2_));have hnb29:=NB404_403.out;have hnc29:=NB403_404.out;have hcz30_0 : w28.cell? ⟨gb404,0,none⟩ = some (.int .i64 0):=(blk_cell BK404.out 0).trans rfl;have hcz30_1 : w28.cell? ⟨gb404,1,none⟩ = some (.slice none 0 0):=(blk_cell BK404.out 1).trans rfl;have hfz30_0:=blk_frozen BK404.out 0;have hfz30_1:=blk_frozen BK404.out 1))
  refine bodyPost_ret (results_ct rfl _ _ gb404 40 #[.int .i64 0,.slice none 0 0] (0,0) _ rfl (by (with_reducible repeat (first|refine blk_drewN ?_ _|refine blk_drew ?_|refine blk_alloc ?_ _));refine blk_put (cs:=#[.int .i64 0,.slice none 0 0]) ?_ 1 _ rfl;(with_reducible repeat (first|refine blk_drewN ?_ _|refine blk_drew ?_|refine blk_alloc ?_ _));refine blk_put (cs:=#[.int .i64 0,.slice none 0 0]) ?_ 0 _ rfl;(with_reducible repeat (first|refine blk_drewN ?_ _|refine blk_drew ?_|refine blk_alloc ?_ _));exact BK404.out) Tryd.underlying40 rfl (by kernel_rfl)) rfl ?_
  exact ⟨_,by first|rfl|(simp [errW_none,errW_some] <;> rfl)|(simp [*,errW_none,errW_some] <;> rfl),by first|exact Kd.R_nil _ _ _ _ _|exact Kd.N_nil _ _ _ _ _|exact Kd.V_nil _ _ _ _ _|exact Kd.Q_nil _ _ _ _ _|exact Kd.S_nil _ _ _ _ _,by repeat (first|(with_reducible first|exact HB.out|apply below_alloc|apply pw_below_drewN|apply below_drew1|refine below_set ?_ GE403.out|refine below_set ?_ GE404.out)|exact HB.out)⟩

end Go.Proofs.YtgfeafcgpeclcaaDoor.X
namespace Go.Proofs.YtgfeafcgpeclcaaDoor.X
open Go.RowKit Go.Proofs.YtgfeafcgpeclcaaDoorW.PrintWords Go.Proofs.YtgfeafcgpeclcaaDoorW.PrintLast Go.Proofs.YtgfeafcgpeclcaaDoorW.PrintMore
attribute [local go_sem] max2_int min2_int max_two min_two max_three min_three max_four min_four   -- for this text's walks alone
set_option linter.unusedVariables false
set_option linter.unusedSimpArgs false

/-! ### spec_l8Copy: function 68 -/
def spec_l8Copy.f (a0_0 : Int) (l0_1 : List Int) : Option (Int × List Int) := (some (([] : List Int) : List Int)).bind fun y498 => (if y498.length + l0_1.length < 17592186044416 then (some (a0_0, (y498 ++ l0_1))) else (none))
def spec_l8Copy.T1 : Bool × List (List Nat × List Nat) := (true, [([], []), ([0], [0]), ([], []), ([], []), ([3], [3]), ([2, 4], [2, 4]), ([1, 5], [1, 5]), ([6, 5, 0, 1, 2, 3, 4, 5, 6], [6])])
def spec_l8Copy.B1 : List Nat := [0, 1, 0, 0, 8, 28, 63, 127]
theorem spec_l8Copy.tab1 : rtab .any (opsOf Tryd.f68 1) = spec_l8Copy.T1 := by kernel_rfl
theorem spec_l8Copy.bits1 : waitsOk spec_l8Copy.T1.2 spec_l8Copy.B1 = true := by kernel_rfl
set_option maxHeartbeats 8000000 in
set_option maxRecDepth 100000 in
theorem spec_l8Copy.calls (a0_0 : Int) (A0_1 : Option Addr) (c0_1 : Nat) (l0_1 : List Int) (r1 : Int) (r2 : List Int) (w : World) (hr0_1 : Kd.C (Kd.int .i64) w A0_1 l0_1.length l0_1) (hc0_1 : l0_1.length ≤ c0_1) (h : spec_l8Copy.f a0_0 l0_1 = some (r1, r2)) :
  Calls Tryd.prog 68 #[.agg #[.int .i64 a0_0,.slice A0_1 l0_1.length c0_1]] w fun e w' => ∃ v1_ : Value,e = .returned (.agg #[.int .i64 r1,v1_])∧Kd.R (Kd.int .i64) 2 w' w.heap.size (fun _ => True) v1_ r2∧Below w.heap.size w w':=by
 have hu30:=Tryd.underlying30
 have HR0_1:=Aside0.mk hr0_1
 have HC0_1:=Aside0.mk hc0_1
 clear hr0_1 hc0_1
 have HB:=Aside0.mk (Below.refl w.heap.size w)
 have H : ((some (([] : List Int) : List Int)).bind fun y498 => (if y498.length + l0_1.length < 17592186044416 then (some (a0_0,(y498 ++ l0_1))) else (none))) = some (r1,r2):=h
 clear h
 obtain ⟨y498,hy498⟩ : ∃ y_ : List Int,y_ = (([] : List Int)):=⟨_,rfl⟩
 replace H : (if y498.length + l0_1.length < 17592186044416 then (some (a0_0,(y498 ++ l0_1))) else (none)) = some (r1,r2):=by first|(rw [hy498];with_reducible exact H)|(have H2_:=(Option.bind_some _ _).symm.trans H;rw [hy498];with_reducible exact H2_)|(have H2_:=(Option.bind_some _ _).symm.trans H;with_reducible exact H2_)|with_reducible exact H|(rw [hy498];exact H)|exact H
 have Ny498:=Aside0.mk hy498
 clear hy498
 by_cases c2 : y498.length + l0_1.length < 17592186044416
 ·rw [if_pos c2] at H
  have LMc2:=Aside0.mk c2
  clear c2
  obtain ⟨y501,hy501⟩ : ∃ y_ : List Int,y_ = (y498 ++ l0_1):=⟨_,rfl⟩
  replace H : (some (a0_0,y501)) = some (r1,r2):=by first|(rw [hy501];with_reducible exact H)|(have H2_:=(Option.bind_some _ _).symm.trans H;rw [hy501];with_reducible exact H2_)|(have H2_:=(Option.bind_some _ _).symm.trans H;with_reducible exact H2_)|with_reducible exact H|(rw [hy501];exact H)|exact H
  have Ny501:=Aside0.mk hy501
  clear hy501
  simp only [Option.some.injEq,Prod.mk.injEq] at H
  obtain ⟨rfl,rfl⟩:=H
  go_enter Tryd.func68,Tryd.ntmps68
  try go_wp2_with (first|((with_reducible refine gate_dst (N:=1) rfl ?_);refine box_event ?hg (N:=1) ?hd (cs:=#[.int .i64 a0_0,.slice A0_1 l0_1.length c0_1]) (t:=30) ?hr ?_;(case hd => rfl);(case hg => rfl);(case hr => first|(go_simp;done)|(go_simp;rfl));intro gb496 hg w3 hbox hb;have n0_:=Aside0.mk (below_step (by repeat (first|(with_reducible first|exact HB.out|apply below_alloc|apply pw_below_drewN|apply below_drew1)|exact HB.out)) hb);have n1_:=Aside0.mk (hbox);have n2_:=Aside0.mk ((by rw [hg];exact (below_size (by repeat (first|(with_reducible first|exact HB.out|apply below_alloc|apply pw_below_drewN|apply below_drew1)|exact HB.out))) : w.heap.size ≤ gb496));have n3_:=Aside0.mk ((by rw [hg];exact (below_size (by repeat (first|(with_reducible first|exact HB.out|apply below_alloc|apply pw_below_drewN|apply below_drew1)|exact HB.out))) : w.heap.size ≤ gb496));clear HB;have HB:=n0_;have BK496:=n1_;have GW496:=n2_;have GE496:=n3_;clear n0_ n1_ n2_ n3_;clear hb hbox hg)|((with_reducible refine gate_dst (N:=2) rfl ?_);refine box_event ?hg (N:=2) ?hd (cs:=#[.int .i64 0,.slice none 0 0]) (t:=30) ?hr ?_;(case hd => rfl);(case hg => rfl);(case hr => first|(go_simp;done)|(go_simp;rfl));intro gb497 hg w4 hbox hb;have n0_:=Aside0.mk (blk_below (g:=gb496) (o:=.cells #[.int .i64 a0_0,.slice A0_1 l0_1.length c0_1] 30 (0,0)) (by (with_reducible repeat (first|refine blk_drewN ?_ _|refine blk_drew ?_|refine blk_alloc ?_ _));exact BK496.out) hb);have n1_:=Aside0.mk (below_step (by repeat (first|(with_reducible first|exact HB.out|apply below_alloc|apply pw_below_drewN|apply below_drew1|refine below_set ?_ GE496.out)|exact HB.out)) hb);have n2_:=Aside0.mk (hbox);have n3_:=Aside0.mk ((by rw [hg];exact (below_size (by repeat (first|(with_reducible first|exact HB.out|apply below_alloc|apply pw_below_drewN|apply below_drew1|refine below_set ?_ GE496.out)|exact HB.out))) : w.heap.size ≤ gb497));have n4_:=Aside0.mk ((by rw [hg];exact (below_size (by repeat (first|(with_reducible first|exact HB.out|apply below_alloc|apply pw_below_drewN|apply below_drew1|refine below_set ?_ GE496.out)|exact HB.out))) : w.heap.size ≤ gb497));have n5_:=Aside0.mk ((by rw [hg];exact Nat.ne_of_lt (blk_lt (g:=gb496) (o:=.cells #[.int .i64 a0_0,.slice A0_1 l0_1.length c0_1] 30 (0,0)) (by (with_reducible repeat (first|refine blk_drewN ?_ _|refine blk_drew ?_|refine blk_alloc ?_ _));exact BK496.out)) : gb496≠gb497));have n6_:=Aside0.mk ((by rw [hg];exact Nat.ne_of_gt (blk_lt (g:=gb496) (o:=.cells #[.int .i64 a0_0,.slice A0_1 l0_1.length c0_1] 30 (0,0)) (by (with_reducible repeat (first|refine blk_drewN ?_ _|refine blk_drew ?_|refine blk_alloc ?_ _));exact BK496.out)) : gb497≠gb496));clear BK496 HB;have BK496:=n0_;have HB:=n1_;have BK497:=n2_;have GW497:=n3_;have GE497:=n4_;have NB496_497:=n5_;have NB497_496:=n6_;clear n0_ n1_ n2_ n3_ n4_ n5_ n6_;clear hb hbox hg))
  have n0_:=Aside0.mk (blk_drew BK496.out)
  have n1_:=Aside0.mk (blk_drew BK497.out)
  have n2_:=Aside0.mk (below_drew1 HB.out)
  clear BK496
  clear BK497
  clear HB
  have BK496:=n0_
  have BK497:=n1_
  have HB:=n2_
  clear n0_ n1_ n2_
  refine start_ (n:=8) (S:=fun w' => w'.cell? ⟨gb496,0,none⟩ = some (.int .i64 a0_0)∧w'.cell? ⟨gb496,1,none⟩ = some (.slice A0_1 l0_1.length c0_1)) (ds:=[]) #[false,false,false,false,false,false,false,false] (by kernel_rfl) rfl rfl ⟨(blk_cell BK496.out 0).trans rfl,(blk_cell BK496.out 1).trans rfl⟩ (fun hHeld => ?_);refine with_tabW spec_l8Copy.tab1 spec_l8Copy.bits1 (fun HT_ HW_ => ?_)
  generalize w4.drew = w5 at BK496 BK497 HB hHeld ⊢
  refine pure_ (i:=0) (N:=some 3) (v:=?_) (a':=?_) #[true,false,false,false,false,false,false,false] rfl rfl (any_of HT_.out (by kernel_rfl)) (fun _ _ _ h => h) (Or.inl ⟨by rfl,?_⟩) ?_ ?_
  rotate_left
  ·intro w'
   go_simp
   with_reducible rfl
  rotate_left
  ·simp only [Act.put,List.setIfInBounds_toArray,List.set_cons_zero,List.set_cons_succ,i64_w,i32_w]
   rfl
  refine pure_ (i:=3) (N:=some 6) (v:=?_) (a':=?_) #[true,false,false,true,false,false,false,false] rfl rfl (any_of HT_.out (by kernel_rfl)) (fun _ _ _ h => h) (Or.inl ⟨by rfl,?_⟩) ?_ ?_
  rotate_left
  ·intro w'
   go_simp
   with_reducible rfl
  rotate_left
  ·simp only [Act.put,List.setIfInBounds_toArray,List.set_cons_zero,List.set_cons_succ,i64_w,i32_w]
   rfl
  refine take_ (i:=1) (N:=some 4) (v:=?_) (a':=?_) #[true,true,false,true,false,false,false,false] rfl rfl (take_ofW HT_.out HW_.out (by kernel_rfl)) (fun _ _ _ h => h) (Or.inl ⟨by rfl,?_⟩) hHeld ?_ ?_
  rotate_left
  ·rintro w' ⟨s0,s1⟩
   go_simp
   with_reducible rfl
  rotate_left
  ·simp only [Act.put,List.setIfInBounds_toArray,List.set_cons_zero,List.set_cons_succ,i64_w,i32_w]
   rfl
  refine take_ (i:=4) (N:=some 7) (v:=?_) (a':=?_) #[true,true,false,true,true,false,false,false] rfl rfl (take_ofW HT_.out HW_.out (by kernel_rfl)) (fun _ _ _ h => h) (Or.inl ⟨by rfl,?_⟩) hHeld ?_ ?_
  rotate_left
  ·rintro w' ⟨s0,s1⟩
   go_simp
   with_reducible rfl
  rotate_left
  ·simp only [Act.put,List.setIfInBounds_toArray,List.set_cons_zero,List.set_cons_succ,i64_w,i32_w]
   rfl
  refine one_ (i:=2) (N:=some 5) #[true,true,true,true,true,false,false,false] rfl rfl (one_of HT_.out (by kernel_rfl)) (by decide) (fun K hK => ?_)
  refine Kd.R_lit_step (Kd.int .i64) _ 2 ?hg (N:=5) ?hd (xs:=([] : List Int)) (inner:=[]) (ok:=fun _ => True) (okp:=fun _ => True) ?hr ?hp (fun _ hk => hk) trivial (Below.refl _ _) (Nat.le_refl _) (by simp) ?_;(case hd => rfl);(case hg => rfl);(case hr => first|(go_simp;done)|(go_simp;rfl));(case hp => exact (Reps.none _ _))
  intro v499 w6 ho7 hb hg_ hnew_
  clear hg_ hnew_
  (first|rw [← Ny498.out] at ho7|(simp only [Int.reduceToNat] at ho7;rw [← Ny498.out] at ho7))
  have n0_:=Aside0.mk (Kd.R_lower ho7 (below_size (by repeat (first|(with_reducible first|exact HB.out|apply below_alloc|apply pw_below_drewN|apply below_drew1|refine below_set ?_ GE496.out|refine below_set ?_ GE497.out)|exact HB.out))))
  have n1_:=Aside0.mk (blk_below (g:=gb496) (o:=.cells #[.int .i64 a0_0,.slice A0_1 l0_1.length c0_1] 30 (0,0)) (by (with_reducible repeat (first|refine blk_drewN ?_ _|refine blk_drew ?_|refine blk_alloc ?_ _));exact BK496.out) hb)
  have n2_:=Aside0.mk (blk_below (g:=gb497) (o:=.cells #[.int .i64 0,.slice none 0 0] 30 (0,0)) (by (with_reducible repeat (first|refine blk_drewN ?_ _|refine blk_drew ?_|refine blk_alloc ?_ _));exact BK497.out) hb)
  have n3_:=Aside0.mk (below_step (by repeat (first|(with_reducible first|exact HB.out|apply below_alloc|apply pw_below_drewN|apply below_drew1|refine below_set ?_ GE496.out|refine below_set ?_ GE497.out)|exact HB.out)) hb)
  clear BK496
  clear BK497
  clear HB
  have HO500:=n0_
  have BK496:=n1_
  have BK497:=n2_
  have HB:=n3_
  clear n0_ n1_ n2_ n3_
  clear hb ho7
  refine hK.out _ _ ⟨(blk_cell BK496.out 0).trans rfl,(blk_cell BK496.out 1).trans rfl⟩ (fun hHeld => ?_)
  clear hK K
  refine norm_ (a':=?_) ?_ ?_
  rotate_left
  ·show Act.put _ (some 5) _ = _
   simp only [Act.put,List.setIfInBounds_toArray,List.set_cons_zero,List.set_cons_succ,i64_w,i32_w]
   rfl
  refine one_ (i:=5) (N:=some 8) #[true,true,true,true,true,true,false,false] rfl rfl (one_of HT_.out (by kernel_rfl)) (by decide) (fun K hK => ?_)
  refine Kd.R_append_rows_step (Kd.int .i64) (w0:=w) w.heap.size (by rfl) (.tmp 5) (.tmp 7) 23 2 (.int .i64 0) 8 rfl Tryd.underlying23 info2 rfl (by decide) (by omega) v499 y498 l0_1 _ _ _ (fun _ => True) (fun _ => False) rfl rfl ?aO ?aR (fun _ _ h => h) (fun _ h => h.elim) ?aF ?aB ?aS ?aL ?_
  (case aR => repeat (first|exact (Kd.C_below HR0_1.out HB.out)|(with_reducible first|refine Kd.C_alloc ?_ _|refine Kd.C_drewN ?_ _|refine Kd.C_drew ?_)))
  (case aB => exact (by repeat (first|(with_reducible first|exact HB.out|apply below_alloc|apply pw_below_drewN|apply below_drew1|refine below_set ?_ GE496.out|refine below_set ?_ GE497.out)|exact HB.out)))
  (case aF => exact (fun _ _ => trivial))
  (case aO => exact (by (with_reducible repeat (first|apply Kd.R_alloc|apply Kd.R_drewN|apply Kd.R_drew));exact HO500.out))
  (case aS => exact (below_size (by repeat (first|(with_reducible first|exact HB.out|apply below_alloc|apply pw_below_drewN|apply below_drew1|refine below_set ?_ GE496.out|refine below_set ?_ GE497.out)|exact HB.out))))
  (case aL => have:=LMc2.out;omega)
  intro v502 w8 ho hb hg hat
  rw [← Ny501.out] at ho
  have n0_:=Aside0.mk (blk_grown (g:=gb496) (o:=.cells #[.int .i64 a0_0,.slice A0_1 l0_1.length c0_1] 30 (0,0)) (by (with_reducible repeat (first|refine blk_drewN ?_ _|refine blk_drew ?_|refine blk_alloc ?_ _));exact BK496.out) hg (Kd.R_ne HO500.out BK496.out (by decide)))
  have n1_:=Aside0.mk (blk_grown (g:=gb497) (o:=.cells #[.int .i64 0,.slice none 0 0] 30 (0,0)) (by (with_reducible repeat (first|refine blk_drewN ?_ _|refine blk_drew ?_|refine blk_alloc ?_ _));exact BK497.out) hg (Kd.R_ne HO500.out BK497.out (by decide)))
  have n2_:=Aside0.mk (hb)
  have n3_:=Aside0.mk (ho)
  clear BK496
  clear BK497
  clear HB
  clear HO500
  have BK496:=n0_
  have BK497:=n1_
  have HB:=n2_
  have HO503:=n3_
  clear n0_ n1_ n2_ n3_
  clear ho hb hg hat
  obtain ⟨Ao9,co9,eo9⟩:=Kd.R_slice HO503.out
  (first|subst eo9|(injection eo9 with f1_ f2_ f3_;have f4_:=f1_.symm;have f5_:=f3_.symm;clear f1_ f2_ f3_;subst f4_;subst f5_))
  refine hK.out _ _ ⟨(blk_cell BK496.out 0).trans rfl,(blk_cell BK496.out 1).trans rfl⟩ (fun hHeld => ?_)
  clear hK K
  refine norm_ (a':=?_) ?_ ?_
  rotate_left
  ·show Act.put _ (some 8) _ = _
   simp only [Act.put,List.setIfInBounds_toArray,List.set_cons_zero,List.set_cons_succ,i64_w,i32_w]
   rfl
  refine pure_ (i:=6) (N:=some 9) (v:=?_) (a':=?_) #[true,true,true,true,true,true,true,false] rfl rfl (any_of HT_.out (by kernel_rfl)) (fun _ _ _ h => h) (Or.inl ⟨by rfl,?_⟩) ?_ ?_
  rotate_left
  ·intro w'
   go_simp
   with_reducible rfl
  rotate_left
  ·simp only [Act.put,List.setIfInBounds_toArray,List.set_cons_zero,List.set_cons_succ,i64_w,i32_w]
   rfl
  refine one_ (i:=7) (N:=none) #[true,true,true,true,true,true,true,true] rfl rfl (one_of HT_.out (by kernel_rfl)) (by decide) (fun K hK => ?_)
  have hs10 : w8.cell? ⟨gb497,0,none⟩ = some (.int .i64 0):=(blk_cell BK497.out 0).trans rfl
  have hfs10:=blk_frozen BK497.out 0
  have hns10_0:=NB496_497.out
  have hms10_0:=NB497_496.out
  have hs11 : w8.cell? ⟨gb497,1,none⟩ = some (.slice none 0 0):=(blk_cell BK497.out 1).trans rfl
  have hfs11:=blk_frozen BK497.out 1
  have hns11_0:=NB496_497.out
  have hms11_0:=NB497_496.out
  refine skip_ (w1:=?_) (by rfl) rfl ?_ ?_
  rotate_left
  ·go_simp
   rfl
  refine hK.out _ _ ⟨((cell_far (p:=⟨gb497,_,none⟩) NB496_497.out _).trans (((cell_far (p:=⟨gb497,_,none⟩) NB496_497.out _).trans (hHeld.1)))),((cell_far (p:=⟨gb497,_,none⟩) NB496_497.out _).trans (((cell_far (p:=⟨gb497,_,none⟩) NB496_497.out _).trans (hHeld.2))))⟩ (fun hHeld => ?_)
  clear hK K
  refine done_ (done_of HT_.out (by kernel_rfl)) ?_
  try go_wp2
  refine bodyPost_ret (results_cell_row rfl _ _ gb497 30 #[.int .i64 a0_0,.slice Ao9 y501.length co9] (0,0) _ rfl (by (with_reducible repeat (first|refine blk_drewN ?_ _|refine blk_drew ?_|refine blk_alloc ?_ _));refine blk_put (cs:=#[.int .i64 a0_0,.slice none 0 0]) ?_ 1 _ rfl;(with_reducible repeat (first|refine blk_drewN ?_ _|refine blk_drew ?_|refine blk_alloc ?_ _));refine blk_put (cs:=#[.int .i64 0,.slice none 0 0]) ?_ 0 _ rfl;(with_reducible repeat (first|refine blk_drewN ?_ _|refine blk_drew ?_|refine blk_alloc ?_ _));exact BK497.out) Tryd.underlying30 rfl (by kernel_rfl)) rfl ?_
  exact ⟨_,by first|rfl|(simp [errW_none,errW_some] <;> rfl)|(simp [*,errW_none,errW_some] <;> rfl),by (with_reducible repeat (first|apply Kd.R_alloc|apply Kd.R_drewN|apply Kd.R_drew));exact Kd.R_mono (Kd.R_far (p:=⟨gb497,1,none⟩) (Kd.R_far (p:=⟨gb497,0,none⟩) (Kd.R_types HO503.out BK497.out (by decide)) (fun _ hk => hk.2) (.int .i64 a0_0)) (fun _ hk => hk.2) (.slice Ao9 y501.length co9)) (fun _ hk => trivial),by repeat (first|(with_reducible first|exact HB.out|apply below_alloc|apply pw_below_drewN|apply below_drew1|refine below_set ?_ GE496.out|refine below_set ?_ GE497.out)|exact HB.out)⟩
 ·rw [if_neg c2] at H
  exact absurd H (by simp)

end Go.Proofs.YtgfeafcgpeclcaaDoor.X
namespace Go.Proofs.YtgfeafcgpeclcaaDoor.X
open Go.RowKit Go.Proofs.YtgfeafcgpeclcaaDoorW.PrintWords Go.Proofs.YtgfeafcgpeclcaaDoorW.PrintLast Go.Proofs.YtgfeafcgpeclcaaDoorW.PrintMore
class Ch (w w' : World) : Prop where
  b : Below w.heap.size w w'
instance Ch.rfl_ (w : World) : Ch w w := ⟨Below.refl _ _⟩
instance Ch.alloc_ {w w' : World} [h : Ch w w'] (o : Obj) : Ch w (w'.alloc o) := ⟨below_alloc h.b o⟩
instance Ch.drew_ {w w' : World} [h : Ch w w'] : Ch w w'.drew := ⟨below_drew1 h.b⟩
instance Ch.drewN_ {w w' : World} [h : Ch w w'] (n : Nat) : Ch w (w'.drewN n) := ⟨pw_below_drewN h.b n⟩
theorem kup {α : Type} {d : Kd α} {e base : Nat} {ok : Nat → Prop} {v : Value} {xs : List α} {w w1 : World} [h : Ch w w1] (r : d.R e w base ok v xs) : d.R e w1 base ok v xs := Kd.R_below r h.b
theorem bup {o : Obj} {g : Nat} {w w1 : World} [h : Ch w w1] (r : w.heap[g]? = some o) : w1.heap[g]? = some o := (h.b.block g (Array.getElem?_eq_some_iff.1 r).1).trans r
theorem lup {w0 w w1 : World} [h : Ch w w1] (r : Below w0.heap.size w0 w) : Below w0.heap.size w0 w1 := below_step r h.b
theorem am {p : Prop} (h : p) : Aside0 p := ⟨h⟩
end Go.Proofs.YtgfeafcgpeclcaaDoor.X
namespace Go.Proofs.YtgfeafcgpeclcaaDoor.X
open Go.RowKit Go.Proofs.YtgfeafcgpeclcaaDoorW.PrintWords Go.Proofs.YtgfeafcgpeclcaaDoorW.PrintLast Go.Proofs.YtgfeafcgpeclcaaDoorW.PrintMore
attribute [local go_sem] max2_int min2_int max_two min_two max_three min_three max_four min_four   -- for this text's walks alone
set_option linter.unusedVariables false
set_option linter.unusedSimpArgs false

/-! ### spec_YoungSet: function 41 -/
def spec_YoungSet.f (k : Nat) (l0 : List ByteArray) (a1_0 : Int) (l1_1 : List Int) (a2 : Int) (a3 : Int) (a4 : Int) : Option (Int × List Int × Bool) := (spec_YoungObject.f k l0 a1_0 l1_1 a2).bind fun bt618 => (if bt618.2.2 = true then ((spec_l1In.f a3 0 (wrap64 ((bt618.2.1.length : Int) - 1))).bind fun t624 => (if t624 = true then (if 0 ≤ bt618.1 then (if bt618.1 < (l0.length : Int) then (if 0 ≤ a3 then (if a3 < ((rdOf ByteArray.empty l0 bt618.1).size : Int) then (if (bt (rdOf ByteArray.empty l0 bt618.1) a3) = 114 then ((spec_Starts.f k l0 a1_0 l1_1).bind fun t626 => ((spec_l8Ref.f k t626 a4).bind fun t629 => (if t629 = true then ((spec_l8Copy.f a1_0 l1_1).bind fun bt630 => (if 0 ≤ (wrap64 ((wrap64 ((wrap64 (Int.tdiv a2 2)) + 1)) + a3)) then (if (wrap64 ((wrap64 ((wrap64 (Int.tdiv a2 2)) + 1)) + a3)) < (bt630.2.length : Int) then (some (bt630.1, (bt630.2.set ((wrap64 ((wrap64 ((wrap64 (Int.tdiv a2 2)) + 1)) + a3)) : Int).toNat a4), true)) else (none)) else (none))) else (some (0, ([] : List Int), false))))) else ((spec_l8Copy.f a1_0 l1_1).bind fun bt636 => (if 0 ≤ (wrap64 ((wrap64 ((wrap64 (Int.tdiv a2 2)) + 1)) + a3)) then (if (wrap64 ((wrap64 ((wrap64 (Int.tdiv a2 2)) + 1)) + a3)) < (bt636.2.length : Int) then (some (bt636.1, (bt636.2.set ((wrap64 ((wrap64 ((wrap64 (Int.tdiv a2 2)) + 1)) + a3)) : Int).toNat a4), true)) else (none)) else (none)))) else (none)) else (none)) else (none)) else (none)) else (some (0, ([] : List Int), false)))) else (some (0, ([] : List Int), false)))
theorem spec_YoungSet.mono : ∀ a0 a1 a2 a3 a4 a5 k, LeO (spec_YoungSet.f k a0 a1 a2 a3 a4 a5) (spec_YoungSet.f (k + 1) a0 a1 a2 a3 a4 a5) := by
 intro a0 a1 a2 a3 a4 a5 k
 unfold spec_YoungSet.f
 repeat' first
   | (with_reducible exact spec_Starts.mono _ _ _ _)
   | (with_reducible exact spec_YoungObject.mono _ _ _ _ _)
   | (with_reducible exact spec_l8Ref.mono _ _ _)
   | (with_reducible exact LeO.refl _)
   | (with_reducible exact LeO.none _)
   | (with_reducible refine LeO.ite ?_ ?_)
   | (with_reducible refine LeO.bind ?_ (fun _ => ?_))
   | exact spec_Starts.mono _ _ _ _
   | exact spec_YoungObject.mono _ _ _ _ _
   | exact spec_l8Ref.mono _ _ _
   | exact LeO.none _
   | refine LeO.ite ?_ ?_
   | refine LeO.bind ?_ (fun _ => ?_)
set_option maxHeartbeats 8000000 in
set_option maxRecDepth 100000 in
theorem spec_YoungSet.calls (k : Nat) (A0 : Option Addr) (c0 : Nat) (l0 : List ByteArray) (a1_0 : Int) (A1_1 : Option Addr) (c1_1 : Nat) (l1_1 : List Int) (a2 : Int) (a3 : Int) (a4 : Int) (r1 : Int) (r2 : List Int) (r3 : Bool) (w : World) (hr0 : Kd.C Kd.string w A0 l0.length l0) (hc0 : l0.length ≤ c0) (hr1_1 : Kd.C (Kd.int .i64) w A1_1 l1_1.length l1_1) (hc1_1 : l1_1.length ≤ c1_1) (h : spec_YoungSet.f k l0 a1_0 l1_1 a2 a3 a4 = some (r1, r2, r3)) :
  Calls Tryd.prog 41 #[.slice A0 l0.length c0,.agg #[.int .i64 a1_0,.slice A1_1 l1_1.length c1_1],.int .i64 a2,.int .i64 a3,.int .i64 a4] w fun e w' => ∃ v1_ : Value,e = .returned (.tuple #[.agg #[.int .i64 r1,v1_],.bool r3])∧Kd.R (Kd.int .i64) 2 w' w.heap.size (fun _ => True) v1_ r2∧Below w.heap.size w w':=by
 have hu30:=Tryd.underlying30
 have hu40:=Tryd.underlying40
 have HR0:=am hr0
 have HC0:=am hc0
 clear hr0 hc0
 have HR1_1:=am hr1_1
 have HC1_1:=am hc1_1
 clear hr1_1 hc1_1
 have HB:=am (Below.refl w.heap.size w)
 have H : ((spec_YoungObject.f k l0 a1_0 l1_1 a2).bind fun bt618 => (if bt618.2.2 = true then ((spec_l1In.f a3 0 (wrap64 ((bt618.2.1.length : Int) - 1))).bind fun t624 => (if t624 = true then (if 0 ≤ bt618.1 then (if bt618.1 < (l0.length : Int) then (if 0 ≤ a3 then (if a3 < ((rdOf ByteArray.empty l0 bt618.1).size : Int) then (if (bt (rdOf ByteArray.empty l0 bt618.1) a3) = 114 then ((spec_Starts.f k l0 a1_0 l1_1).bind fun t626 => ((spec_l8Ref.f k t626 a4).bind fun t629 => (if t629 = true then ((spec_l8Copy.f a1_0 l1_1).bind fun bt630 => (if 0 ≤ (wrap64 ((wrap64 ((wrap64 (Int.tdiv a2 2)) + 1)) + a3)) then (if (wrap64 ((wrap64 ((wrap64 (Int.tdiv a2 2)) + 1)) + a3)) < (bt630.2.length : Int) then (some (bt630.1,(bt630.2.set ((wrap64 ((wrap64 ((wrap64 (Int.tdiv a2 2)) + 1)) + a3)) : Int).toNat a4),true)) else (none)) else (none))) else (some (0,([] : List Int),false))))) else ((spec_l8Copy.f a1_0 l1_1).bind fun bt636 => (if 0 ≤ (wrap64 ((wrap64 ((wrap64 (Int.tdiv a2 2)) + 1)) + a3)) then (if (wrap64 ((wrap64 ((wrap64 (Int.tdiv a2 2)) + 1)) + a3)) < (bt636.2.length : Int) then (some (bt636.1,(bt636.2.set ((wrap64 ((wrap64 ((wrap64 (Int.tdiv a2 2)) + 1)) + a3)) : Int).toNat a4),true)) else (none)) else (none)))) else (none)) else (none)) else (none)) else (none)) else (some (0,([] : List Int),false)))) else (some (0,([] : List Int),false)))) = some (r1,r2,r3):=h
 clear h
 replace H:=Option.bind_eq_some_iff.mp H
 obtain ⟨⟨t618,t619,t622⟩,A60,H⟩:=H
 try dsimp only at H
 have A6:=am A60
 clear A60
 by_cases c7 : t622 = true
 ·subst c7
  have H1:=H;rw [if_pos rfl] at H1
  clear H
  have H:=H1
  clear H1
  replace H:=Option.bind_eq_some_iff.mp H
  obtain ⟨t624,A80,H⟩:=H
  try dsimp only at H
  have A8:=am A80
  clear A80
  by_cases c9 : t624 = true
  ·subst c9
   have H1:=H;rw [if_pos rfl] at H1
   clear H
   have H:=H1
   clear H1
   by_cases c10 : 0 ≤ t618
   ·rw [if_pos c10] at H
    have c10b0 : decide (0 ≤ t618) = true:=decide_eq_true c10
    clear c10
    by_cases c11 : t618 < (l0.length : Int)
    ·rw [if_pos c11] at H
     have c11b0 : decide (t618 < (l0.length : Int)) = true:=decide_eq_true c11
     clear c11
     by_cases c12 : 0 ≤ a3
     ·rw [if_pos c12] at H
      have c12b0 : decide (0 ≤ a3) = true:=decide_eq_true c12
      clear c12
      by_cases c13 : a3 < ((rdOf ByteArray.empty l0 t618).size : Int)
      ·rw [if_pos c13] at H
       have c13b0 : decide (a3 < ((rdOf ByteArray.empty l0 t618).size : Int)) = true:=decide_eq_true c13
       clear c13
       by_cases c15 : (bt (rdOf ByteArray.empty l0 t618) a3) = 114
       ·rw [if_pos c15] at H
        have c15b0 : ((bt (rdOf ByteArray.empty l0 t618) a3) == 114) = true:=beq_iff_eq.mpr c15
        have c15b1 : ((bt (rdOf ByteArray.empty l0 t618) a3) != 114) = false:=bne_eq_false_iff_eq.mpr c15
        clear c15
        replace H:=Option.bind_eq_some_iff.mp H
        obtain ⟨t626,A160,H⟩:=H
        try dsimp only at H
        have A16:=am A160
        clear A160
        replace H:=Option.bind_eq_some_iff.mp H
        obtain ⟨t629,A170,H⟩:=H
        try dsimp only at H
        have A17:=am A170
        clear A170
        by_cases c18 : t629 = true
        ·subst c18
         have H1:=H;rw [if_pos rfl] at H1
         clear H
         have H:=H1
         clear H1
         replace H:=Option.bind_eq_some_iff.mp H
         obtain ⟨⟨t630,t631⟩,A190,H⟩:=H
         try dsimp only at H
         have A19:=am A190
         clear A190
         obtain ⟨ji20,hji20⟩ : ∃ j_ : Int,(wrap64 ((wrap64 ((wrap64 (Int.tdiv a2 2)) + 1)) + a3)) = j_:=⟨_,rfl⟩
         replace H : (if 0 ≤ (ji20) then (if (ji20) < (t631.length : Int) then (some (t630,(t631.set ((ji20) : Int).toNat a4),true)) else (none)) else (none)) = some (r1,r2,r3):=by first|(rw [hji20] at H;exact H)|(simp only [hji20] at H ⊢;exact H)
         (try rw [hji20] at A6)
         (try rw [hji20] at A8)
         (try rw [hji20] at A16)
         (try rw [hji20] at A17)
         (try rw [hji20] at A19)
         have hji20w : (IntKind.i64.wrap ((wrap64 ((wrap64 (Int.tdiv a2 2)) + 1)) + a3)) = ji20:=(i64_w _).trans hji20
         by_cases c21 : 0 ≤ (ji20)
         ·rw [if_pos c21] at H
          have c21b0 : decide (0 ≤ (ji20)) = true:=decide_eq_true c21
          clear c21
          by_cases c22 : (ji20) < (t631.length : Int)
          ·rw [if_pos c22] at H
           have c22b0 : decide ((ji20) < (t631.length : Int)) = true:=decide_eq_true c22
           clear c22
           obtain ⟨y635,hy635⟩ : ∃ y_ : List Int,y_ = (t631.set ((ji20) : Int).toNat a4):=⟨_,rfl⟩
           replace H : (some (t630,y635,true)) = some (r1,r2,r3):=by first|(rw [hy635];with_reducible exact H)|(have H2_:=(Option.bind_some _ _).symm.trans H;rw [hy635];with_reducible exact H2_)|(have H2_:=(Option.bind_some _ _).symm.trans H;with_reducible exact H2_)|with_reducible exact H|(rw [hy635];exact H)|exact H
           have Ny635:=am hy635
           clear hy635
           simp only [Option.some.injEq,Prod.mk.injEq] at H
           obtain ⟨rfl,rfl,rfl⟩:=H
           go_enter Tryd.func41,Tryd.ntmps41
           go_wp2_with (first|((with_reducible refine gate_dst (N:=6) rfl ?_);(try (refine gate_guard (by rfl) ?_;dsimp only));refine box_event ?hg (N:=6) ?hd (cs:=#[.int .i64 a1_0,.slice A1_1 l1_1.length c1_1]) (t:=30) ?hr ?_;(case hd => rfl);(case hg => rfl);(case hr => first|(go_simp;done)|(go_simp;rfl));intro gb616 hg w24 hbox hb;have n0_:=am (below_step (by repeat (first|(with_reducible first|exact HB.out|apply below_alloc|apply pw_below_drewN|apply below_drew1)|exact HB.out)) hb);have n1_:=am (hbox);have n2_:=am ((by rw [hg];exact (below_size (by repeat (first|(with_reducible first|exact HB.out|apply below_alloc|apply pw_below_drewN|apply below_drew1)|exact HB.out))) : w.heap.size ≤ gb616));have n3_:=am ((by rw [hg];exact (below_size (by repeat (first|(with_reducible first|exact HB.out|apply below_alloc|apply pw_below_drewN|apply below_drew1)|exact HB.out))) : w.heap.size ≤ gb616));clear HB;have HB:=n0_;have BK616:=n1_;have GW616:=n2_;have GE616:=n3_;clear n0_ n1_ n2_ n3_;clear hb hbox hg)|((with_reducible refine gate_dst (N:=10) rfl ?_);(try (refine gate_guard (by rfl) ?_;dsimp only));refine box_event ?hg (N:=10) ?hd (cs:=#[.int .i64 0,.slice none 0 0]) (t:=30) ?hr ?_;(case hd => rfl);(case hg => rfl);(case hr => first|(go_simp;done)|(go_simp;rfl));intro gb617 hg w25 hbox hb;have n0_:=am (blk_below (g:=gb616) (o:=.cells #[.int .i64 a1_0,.slice A1_1 l1_1.length c1_1] 30 (0,0)) (bup BK616.out) hb);have n1_:=am (below_step (by repeat (first|(with_reducible first|exact HB.out|apply below_alloc|apply pw_below_drewN|apply below_drew1|refine below_set ?_ GE616.out)|exact HB.out)) hb);have n2_:=am (hbox);have n3_:=am ((by rw [hg];exact (below_size (by repeat (first|(with_reducible first|exact HB.out|apply below_alloc|apply pw_below_drewN|apply below_drew1|refine below_set ?_ GE616.out)|exact HB.out))) : w.heap.size ≤ gb617));have n4_:=am ((by rw [hg];exact (below_size (by repeat (first|(with_reducible first|exact HB.out|apply below_alloc|apply pw_below_drewN|apply below_drew1|refine below_set ?_ GE616.out)|exact HB.out))) : w.heap.size ≤ gb617));have n5_:=am ((by rw [hg];exact Nat.ne_of_lt (blk_lt (g:=gb616) (o:=.cells #[.int .i64 a1_0,.slice A1_1 l1_1.length c1_1] 30 (0,0)) (bup BK616.out)) : gb616≠gb617));have n6_:=am ((by rw [hg];exact Nat.ne_of_gt (blk_lt (g:=gb616) (o:=.cells #[.int .i64 a1_0,.slice A1_1 l1_1.length c1_1] 30 (0,0)) (bup BK616.out)) : gb617≠gb616));clear BK616 HB;have BK616:=n0_;have HB:=n1_;have BK617:=n2_;have GW617:=n3_;have GE617:=n4_;have NB616_617:=n5_;have NB617_616:=n6_;clear n0_ n1_ n2_ n3_ n4_ n5_ n6_;clear hb hbox hg;have hnb26:=NB616_617.out;have hnc26:=NB617_616.out;have hcz27_0 : w25.cell? ⟨gb616,0,none⟩ = some (.int .i64 a1_0):=(blk_cell BK616.out 0).trans rfl;have hcz27_1 : w25.cell? ⟨gb616,1,none⟩ = some (.slice A1_1 l1_1.length c1_1):=(blk_cell BK616.out 1).trans rfl;have hfz27_0:=blk_frozen BK616.out 0;have hfz27_1:=blk_frozen BK616.out 1)|((with_reducible refine gate_callee (f:=33) rfl ?_);refine goesL_ (some 19) rfl rfl Tryd.func33 (by kernel_rfl) rfl #[.slice A0 l0.length c0,.agg #[.int .i64 a1_0,.slice A1_1 l1_1.length c1_1],.int .i64 a2] rfl (by (try simp only [List.map_toArray,List.map_cons,List.map_nil]);first|done|rfl|(simp only [List.length_drop,List.length_take];rfl)) ?_;(with_reducible refine (spec_YoungObject.calls k _ _ l0 a1_0 _ _ l1_1 a2 t618 t619 true _ ?side1 ?side2 ?side3 ?side4 A6.out).mono ?_);(case side1 => repeat (first|exact (Kd.C_below HR0.out HB.out)|(with_reducible first|refine Kd.C_alloc ?_ _|refine Kd.C_drewN ?_ _|refine Kd.C_drew ?_)));(case side2 => exact HC0.out);(case side3 => repeat (first|exact (Kd.C_below HR1_1.out HB.out)|(with_reducible first|refine Kd.C_alloc ?_ _|refine Kd.C_drewN ?_ _|refine Kd.C_drew ?_)));(case side4 => exact HC1_1.out);rintro e w28 ⟨v620,rfl,ho0,hb⟩;refine ⟨_,rfl,?_⟩;have n0_:=am (Kd.R_lower ho0 (below_size (by repeat (first|(with_reducible first|exact HB.out|apply below_alloc|apply pw_below_drewN|apply below_drew1|refine below_set ?_ GE616.out|refine below_set ?_ GE617.out)|exact HB.out))));have n1_:=am (blk_below (g:=gb616) (o:=.cells #[.int .i64 a1_0,.slice A1_1 l1_1.length c1_1] 30 (0,0)) (bup BK616.out) hb);have n2_:=am (blk_below (g:=gb617) (o:=.cells #[.int .i64 0,.slice none 0 0] 30 (0,0)) (bup BK617.out) hb);have n3_:=am (below_step (by repeat (first|(with_reducible first|exact HB.out|apply below_alloc|apply pw_below_drewN|apply below_drew1|refine below_set ?_ GE616.out|refine below_set ?_ GE617.out)|exact HB.out)) hb);clear BK616 BK617 HB;have HO621:=n0_;have BK616:=n1_;have BK617:=n2_;have HB:=n3_;clear n0_ n1_ n2_ n3_;(try clear hb);(try clear hb2);(try clear hk);(try clear hi);(try clear ho0))|((with_reducible refine gate_dst (N:=12) rfl ?_);(try (refine gate_guard (by rfl) ?_;dsimp only));refine box_event ?hg (N:=12) ?hd (cs:=#[.int .i64 0,.slice none 0 0]) (t:=40) ?hr ?_;(case hd => rfl);(case hg => rfl);(case hr => first|(go_simp;done)|(go_simp;rfl));intro gb623 hg w29 hbox hb;have n0_:=am (Kd.R_below (kup HO621.out) hb);have n1_:=am (blk_below (g:=gb616) (o:=.cells #[.int .i64 a1_0,.slice A1_1 l1_1.length c1_1] 30 (0,0)) (bup BK616.out) hb);have n2_:=am (blk_below (g:=gb617) (o:=.cells #[.int .i64 0,.slice none 0 0] 30 (0,0)) (bup BK617.out) hb);have n3_:=am (below_step (by repeat (first|(with_reducible first|exact HB.out|apply below_alloc|apply pw_below_drewN|apply below_drew1|refine below_set ?_ GE616.out|refine below_set ?_ GE617.out)|exact HB.out)) hb);have n4_:=am (hbox);have n5_:=am ((by rw [hg];exact (below_size (by repeat (first|(with_reducible first|exact HB.out|apply below_alloc|apply pw_below_drewN|apply below_drew1|refine below_set ?_ GE616.out|refine below_set ?_ GE617.out)|exact HB.out))) : w.heap.size ≤ gb623));have n6_:=am ((by rw [hg];exact (below_size (by repeat (first|(with_reducible first|exact HB.out|apply below_alloc|apply pw_below_drewN|apply below_drew1|refine below_set ?_ GE616.out|refine below_set ?_ GE617.out)|exact HB.out))) : w.heap.size ≤ gb623));have n7_:=am ((by rw [hg];exact Nat.ne_of_lt (blk_lt (g:=gb616) (o:=.cells #[.int .i64 a1_0,.slice A1_1 l1_1.length c1_1] 30 (0,0)) (bup BK616.out)) : gb616≠gb623));have n8_:=am ((by rw [hg];exact Nat.ne_of_gt (blk_lt (g:=gb616) (o:=.cells #[.int .i64 a1_0,.slice A1_1 l1_1.length c1_1] 30 (0,0)) (bup BK616.out)) : gb623≠gb616));have n9_:=am ((by rw [hg];exact Nat.ne_of_lt (blk_lt (g:=gb617) (o:=.cells #[.int .i64 0,.slice none 0 0] 30 (0,0)) (bup BK617.out)) : gb617≠gb623));have n10_:=am ((by rw [hg];exact Nat.ne_of_gt (blk_lt (g:=gb617) (o:=.cells #[.int .i64 0,.slice none 0 0] 30 (0,0)) (bup BK617.out)) : gb623≠gb617));clear HO621 BK616 BK617 HB;have HO621:=n0_;have BK616:=n1_;have BK617:=n2_;have HB:=n3_;have BK623:=n4_;have GW623:=n5_;have GE623:=n6_;have NB616_623:=n7_;have NB623_616:=n8_;have NB617_623:=n9_;have NB623_617:=n10_;clear n0_ n1_ n2_ n3_ n4_ n5_ n6_ n7_ n8_ n9_ n10_;clear hb hbox hg;have hnb30:=NB623_616.out;have hnc30:=NB616_623.out;have hnb31:=NB623_617.out;have hnc31:=NB617_623.out;have hcz32_0 : w29.cell? ⟨gb623,0,none⟩ = some (.int .i64 0):=(blk_cell BK623.out 0).trans rfl;have hcz32_1 : w29.cell? ⟨gb623,1,none⟩ = some (.slice none 0 0):=(blk_cell BK623.out 1).trans rfl;have hfz32_0:=blk_frozen BK623.out 0;have hfz32_1:=blk_frozen BK623.out 1;obtain ⟨Ao33,co33,eo33⟩:=Kd.R_slice HO621.out;subst eo33)|(go_at_call 67;(with_reducible refine (spec_l1In.calls a3 0 (wrap64 ((t619.length : Int) - 1)) true _ A8.out).mono ?_);rintro e w' ⟨rfl,⟨nd,rfl⟩⟩;have p625 : 0 ≤ (t618 : Int):=of_decide_eq_true (by first|(with_reducible assumption)|assumption);have q625 : t618 < (l0.length : Int):=of_decide_eq_true (by first|(with_reducible assumption)|assumption);obtain ⟨ad625,e625,hx625_0⟩:=Kd.at_string HR0.out t618 p625 q625;cases e625;have hn625_0 : ad625.block≠gb623:=Nat.ne_of_lt (Nat.lt_of_lt_of_le (by have:=World.block_lt_of_cell? _ _ hx625_0;first|rwa [add_block] at this|exact this) GW623.out);have hn625_1 : ad625.block≠gb623:=Nat.ne_of_lt (Nat.lt_of_lt_of_le (by have:=World.block_lt_of_cell? _ _ hx625_0;first|rwa [add_block] at this|exact this) GW623.out);replace hx625_0:=(HB.out.cell (World.block_lt_of_cell? w _ hx625_0)).trans hx625_0;replace hx625_0:=(cell_far (p:=⟨gb623,0,none⟩) (by first|(rw [add_block];exact hn625_0)|(show (Addr.add _ _).block≠_;rw [add_block];exact hn625_0)|exact hn625_0) (.int .i64 t618)).trans hx625_0;replace hx625_0:=(cell_far (p:=⟨gb623,1,none⟩) (by first|(rw [add_block];exact hn625_1)|(show (Addr.add _ _).block≠_;rw [add_block];exact hn625_1)|exact hn625_1) (.slice Ao33 t619.length co33)).trans hx625_0;clear hn625_0 hn625_1;replace p625:=eq_true p625;replace q625:=eq_true q625;have p14 : 0 ≤ (a3 : Int):=of_decide_eq_true (by first|(with_reducible assumption)|assumption);have q14 : a3 < ((rdOf ByteArray.empty l0 t618).size : Int):=of_decide_eq_true (by first|(with_reducible assumption)|assumption);have hx14:=bt_at (rdOf ByteArray.empty l0 t618) a3;replace p14:=eq_true p14;replace q14:=eq_true q14;have hcz34_0 : w29.cell? ⟨gb616,0,none⟩ = some (.int .i64 a1_0):=(blk_cell BK616.out 0).trans rfl;have hcz34_1 : w29.cell? ⟨gb616,1,none⟩ = some (.slice A1_1 l1_1.length c1_1):=(blk_cell BK616.out 1).trans rfl;have hfz34_0:=blk_frozen BK616.out 0;have hfz34_1:=blk_frozen BK616.out 1)|(go_at_call 24;(with_reducible refine (spec_Starts.calls k _ _ l0 a1_0 _ _ l1_1 t626 _ ?side1 ?side2 ?side3 ?side4 A16.out).mono ?_);(case side1 => exact Kd.C_below HR0.out (by repeat (first|(with_reducible first|exact HB.out|apply below_alloc|apply pw_below_drewN|apply below_drew1|refine below_set ?_ GE616.out|refine below_set ?_ GE617.out|refine below_set ?_ GE623.out)|exact HB.out)));(case side2 => exact HC0.out);(case side3 => exact Kd.C_below HR1_1.out (by repeat (first|(with_reducible first|exact HB.out|apply below_alloc|apply pw_below_drewN|apply below_drew1|refine below_set ?_ GE616.out|refine below_set ?_ GE617.out|refine below_set ?_ GE623.out)|exact HB.out)));(case side4 => exact HC1_1.out);rintro e w35 ⟨v627,rfl,ho0,hb⟩;have n0_:=am (Kd.R_elder' (by (with_reducible repeat (first|apply Kd.R_alloc|apply Kd.R_drewN|apply Kd.R_drew));exact (Kd.R_mono (Kd.R_far (p:=⟨gb623,1,none⟩) (Kd.R_far (p:=⟨gb623,0,none⟩) (Kd.R_types HO621.out BK623.out (by decide)) (fun _ hk => hk.2) (.int .i64 t618)) (fun _ hk => hk.2) (.slice Ao33 t619.length co33)) (fun _ h_ => h_.1))) (Kd.R_base ho0) hb);have n1_:=am (Kd.R_lower (Kd.R_new' ho0 (Kd.R_lt (by (with_reducible repeat (first|apply Kd.R_alloc|apply Kd.R_drewN|apply Kd.R_drew));exact (Kd.R_mono (Kd.R_far (p:=⟨gb623,1,none⟩) (Kd.R_far (p:=⟨gb623,0,none⟩) (Kd.R_types HO621.out BK623.out (by decide)) (fun _ hk => hk.2) (.int .i64 t618)) (fun _ hk => hk.2) (.slice Ao33 t619.length co33)) (fun _ h_ => h_.1))))) (below_size (by repeat (first|(with_reducible first|exact HB.out|apply below_alloc|apply pw_below_drewN|apply below_drew1|refine below_set ?_ GE616.out|refine below_set ?_ GE617.out|refine below_set ?_ GE623.out)|exact HB.out))));have n2_:=am (blk_below (g:=gb616) (o:=.cells #[.int .i64 a1_0,.slice A1_1 l1_1.length c1_1] 30 (0,0)) (by (with_reducible repeat (first|refine blk_drewN ?_ _|refine blk_drew ?_|refine blk_alloc ?_ _));refine blk_far ?_ NB616_623.out _;(with_reducible repeat (first|refine blk_drewN ?_ _|refine blk_drew ?_|refine blk_alloc ?_ _));refine blk_far ?_ NB616_623.out _;(with_reducible repeat (first|refine blk_drewN ?_ _|refine blk_drew ?_|refine blk_alloc ?_ _));exact BK616.out) hb);have n3_:=am (blk_below (g:=gb617) (o:=.cells #[.int .i64 0,.slice none 0 0] 30 (0,0)) (by (with_reducible repeat (first|refine blk_drewN ?_ _|refine blk_drew ?_|refine blk_alloc ?_ _));refine blk_far ?_ NB617_623.out _;(with_reducible repeat (first|refine blk_drewN ?_ _|refine blk_drew ?_|refine blk_alloc ?_ _));refine blk_far ?_ NB617_623.out _;(with_reducible repeat (first|refine blk_drewN ?_ _|refine blk_drew ?_|refine blk_alloc ?_ _));exact BK617.out) hb);have n4_:=am (blk_below (g:=gb623) (o:=.cells #[.int .i64 t618,.slice Ao33 t619.length co33] 40 (0,0)) (by (with_reducible repeat (first|refine blk_drewN ?_ _|refine blk_drew ?_|refine blk_alloc ?_ _));refine blk_put (cs:=#[.int .i64 t618,.slice none 0 0]) ?_ 1 _ rfl;(with_reducible repeat (first|refine blk_drewN ?_ _|refine blk_drew ?_|refine blk_alloc ?_ _));refine blk_put (cs:=#[.int .i64 0,.slice none 0 0]) ?_ 0 _ rfl;(with_reducible repeat (first|refine blk_drewN ?_ _|refine blk_drew ?_|refine blk_alloc ?_ _));exact BK623.out) hb);have n5_:=am (below_step (by repeat (first|(with_reducible first|exact HB.out|apply below_alloc|apply pw_below_drewN|apply below_drew1|refine below_set ?_ GE616.out|refine below_set ?_ GE617.out|refine below_set ?_ GE623.out)|exact HB.out)) hb);clear HO621 BK616 BK617 BK623 HB;have HO621:=n0_;have HO628:=n1_;have BK616:=n2_;have BK617:=n3_;have BK623:=n4_;have HB:=n5_;clear n0_ n1_ n2_ n3_ n4_ n5_;(try clear hb);(try clear hb2);(try clear hk);(try clear hi);(try clear ho0);obtain ⟨Ao36,co36,eo36⟩:=Kd.R_slice HO628.out;subst eo36)|(go_at_call 59;(with_reducible refine (spec_l8Ref.calls k _ _ t626 a4 true _ ?side1 ?side2 A17.out).mono ?_);(case side1 => repeat (first|exact (Kd.R_reads' HO628.out).2.2|(with_reducible first|refine Kd.C_alloc ?_ _|refine Kd.C_drewN ?_ _|refine Kd.C_drew ?_)));(case side2 => exact (Kd.R_reads' HO628.out).2.1);rintro e w' ⟨rfl,⟨nd,rfl⟩⟩;(try (rw [drewN_self w35];generalize hq_ : World.drewN w35 _ = w35;have n0_ : Aside0 (Kd.R (Kd.int .i64) 2 w35 w.heap.size (fun k_ => some k_≠(.slice Ao36 t626.length co36 : Value).ownBlock) (.slice Ao33 t619.length co33) t619):=⟨by rw [← hq_];exact (by (with_reducible repeat (first|apply Kd.R_alloc|apply Kd.R_drewN|apply Kd.R_drew));exact Kd.R_mono HO621.out (fun _ hk => hk.2))⟩;have n1_ : Aside0 (Kd.R (Kd.int .i64) 2 w35 w.heap.size (fun k_ => some k_≠(.slice Ao33 t619.length co33 : Value).ownBlock) (.slice Ao36 t626.length co36) t626):=⟨by rw [← hq_];exact (by (with_reducible repeat (first|apply Kd.R_alloc|apply Kd.R_drewN|apply Kd.R_drew));exact Kd.R_mono HO628.out (fun _ hk => hk.2))⟩;have n2_ : Aside0 (w35.heap[gb616]? = some (.cells #[.int .i64 a1_0,.slice A1_1 l1_1.length c1_1] 30 (0,0))):=⟨by rw [← hq_];exact (bup BK616.out)⟩;have n3_ : Aside0 (w35.heap[gb617]? = some (.cells #[.int .i64 0,.slice none 0 0] 30 (0,0))):=⟨by rw [← hq_];exact (bup BK617.out)⟩;have n4_ : Aside0 (w35.heap[gb623]? = some (.cells #[.int .i64 t618,.slice Ao33 t619.length co33] 40 (0,0))):=⟨by rw [← hq_];exact (bup BK623.out)⟩;have n5_ : Aside0 (Below w.heap.size w w35):=⟨by rw [← hq_];exact (by repeat (first|(with_reducible first|exact HB.out|apply below_alloc|apply pw_below_drewN|apply below_drew1|refine below_set ?_ GE616.out|refine below_set ?_ GE617.out|refine below_set ?_ GE623.out)|exact HB.out))⟩;clear HO621 HO628 BK616 BK617 BK623 HB hq_;have HO621:=n0_;have HO628:=n1_;have BK616:=n2_;have BK617:=n3_;have BK623:=n4_;have HB:=n5_;clear n0_ n1_ n2_ n3_ n4_ n5_));have hcz37_0 : w35.cell? ⟨gb616,0,none⟩ = some (.int .i64 a1_0):=(blk_cell BK616.out 0).trans rfl;have hcz37_1 : w35.cell? ⟨gb616,1,none⟩ = some (.slice A1_1 l1_1.length c1_1):=(blk_cell BK616.out 1).trans rfl;have hfz37_0:=blk_frozen BK616.out 0;have hfz37_1:=blk_frozen BK616.out 1)|((with_reducible refine gate_callee (f:=68) rfl ?_);refine goesL_ (some 53) rfl rfl Tryd.func68 (by kernel_rfl) rfl #[.agg #[.int .i64 a1_0,.slice A1_1 l1_1.length c1_1]] rfl (by (try simp only [List.map_toArray,List.map_cons,List.map_nil]);first|done|rfl|(simp only [List.length_drop,List.length_take];rfl)) ?_;(with_reducible refine (spec_l8Copy.calls a1_0 _ _ l1_1 t630 t631 _ ?side1 ?side2 A19.out).mono ?_);(case side1 => repeat (first|exact (Kd.C_below HR1_1.out HB.out)|(with_reducible first|refine Kd.C_alloc ?_ _|refine Kd.C_drewN ?_ _|refine Kd.C_drew ?_)));(case side2 => exact HC1_1.out);rintro e w38 ⟨v632,rfl,ho0,hb⟩;refine ⟨_,rfl,?_⟩;have n0_:=am (Kd.R_elder' (kup HO621.out) (Kd.R_base ho0) hb);have n1_:=am (Kd.R_elder' (kup HO628.out) (Kd.R_base ho0) hb);have n2_:=am (Kd.R_lower (Kd.R_new' (Kd.R_new' ho0 (Kd.R_lt (kup HO621.out))) (Kd.R_lt (kup HO628.out))) (below_size (by repeat (first|(with_reducible first|exact HB.out|apply below_alloc|apply pw_below_drewN|apply below_drew1|refine below_set ?_ GE616.out|refine below_set ?_ GE617.out|refine below_set ?_ GE623.out)|exact HB.out))));have n3_:=am (blk_below (g:=gb616) (o:=.cells #[.int .i64 a1_0,.slice A1_1 l1_1.length c1_1] 30 (0,0)) (bup BK616.out) hb);have n4_:=am (blk_below (g:=gb617) (o:=.cells #[.int .i64 0,.slice none 0 0] 30 (0,0)) (bup BK617.out) hb);have n5_:=am (blk_below (g:=gb623) (o:=.cells #[.int .i64 t618,.slice Ao33 t619.length co33] 40 (0,0)) (bup BK623.out) hb);have n6_:=am (below_step (by repeat (first|(with_reducible first|exact HB.out|apply below_alloc|apply pw_below_drewN|apply below_drew1|refine below_set ?_ GE616.out|refine below_set ?_ GE617.out|refine below_set ?_ GE623.out)|exact HB.out)) hb);clear HO621 HO628 BK616 BK617 BK623 HB;have HO621:=n0_;have HO628:=n1_;have HO633:=n2_;have BK616:=n3_;have BK617:=n4_;have BK623:=n5_;have HB:=n6_;clear n0_ n1_ n2_ n3_ n4_ n5_ n6_;(try clear hb);(try clear hb2);(try clear hk);(try clear hi);(try clear ho0))|((with_reducible refine gate_dst (N:=14) rfl ?_);(try (refine gate_guard (by rfl) ?_;dsimp only));refine box_event ?hg (N:=14) ?hd (cs:=#[.int .i64 0,.slice none 0 0]) (t:=30) ?hr ?_;(case hd => rfl);(case hg => rfl);(case hr => first|(go_simp;done)|(go_simp;rfl));intro gb634 hg w39 hbox hb;have n0_:=am (Kd.R_below (kup HO621.out) hb);have n1_:=am (Kd.R_below (kup HO628.out) hb);have n2_:=am (Kd.R_below (kup HO633.out) hb);have n3_:=am (blk_below (g:=gb616) (o:=.cells #[.int .i64 a1_0,.slice A1_1 l1_1.length c1_1] 30 (0,0)) (bup BK616.out) hb);have n4_:=am (blk_below (g:=gb617) (o:=.cells #[.int .i64 0,.slice none 0 0] 30 (0,0)) (bup BK617.out) hb);have n5_:=am (blk_below (g:=gb623) (o:=.cells #[.int .i64 t618,.slice Ao33 t619.length co33] 40 (0,0)) (bup BK623.out) hb);have n6_:=am (below_step (by repeat (first|(with_reducible first|exact HB.out|apply below_alloc|apply pw_below_drewN|apply below_drew1|refine below_set ?_ GE616.out|refine below_set ?_ GE617.out|refine below_set ?_ GE623.out)|exact HB.out)) hb);have n7_:=am (hbox);have n8_:=am ((by rw [hg];exact (below_size (by repeat (first|(with_reducible first|exact HB.out|apply below_alloc|apply pw_below_drewN|apply below_drew1|refine below_set ?_ GE616.out|refine below_set ?_ GE617.out|refine below_set ?_ GE623.out)|exact HB.out))) : w.heap.size ≤ gb634));have n9_:=am ((by rw [hg];exact (below_size (by repeat (first|(with_reducible first|exact HB.out|apply below_alloc|apply pw_below_drewN|apply below_drew1|refine below_set ?_ GE616.out|refine below_set ?_ GE617.out|refine below_set ?_ GE623.out)|exact HB.out))) : w.heap.size ≤ gb634));have n10_:=am ((by rw [hg];exact Nat.ne_of_lt (blk_lt (g:=gb616) (o:=.cells #[.int .i64 a1_0,.slice A1_1 l1_1.length c1_1] 30 (0,0)) (bup BK616.out)) : gb616≠gb634));have n11_:=am ((by rw [hg];exact Nat.ne_of_gt (blk_lt (g:=gb616) (o:=.cells #[.int .i64 a1_0,.slice A1_1 l1_1.length c1_1] 30 (0,0)) (bup BK616.out)) : gb634≠gb616));have n12_:=am ((by rw [hg];exact Nat.ne_of_lt (blk_lt (g:=gb617) (o:=.cells #[.int .i64 0,.slice none 0 0] 30 (0,0)) (bup BK617.out)) : gb617≠gb634));have n13_:=am ((by rw [hg];exact Nat.ne_of_gt (blk_lt (g:=gb617) (o:=.cells #[.int .i64 0,.slice none 0 0] 30 (0,0)) (bup BK617.out)) : gb634≠gb617));have n14_:=am ((by rw [hg];exact Nat.ne_of_lt (blk_lt (g:=gb623) (o:=.cells #[.int .i64 t618,.slice Ao33 t619.length co33] 40 (0,0)) (bup BK623.out)) : gb623≠gb634));have n15_:=am ((by rw [hg];exact Nat.ne_of_gt (blk_lt (g:=gb623) (o:=.cells #[.int .i64 t618,.slice Ao33 t619.length co33] 40 (0,0)) (bup BK623.out)) : gb634≠gb623));clear HO621 HO628 HO633 BK616 BK617 BK623 HB;have HO621:=n0_;have HO628:=n1_;have HO633:=n2_;have BK616:=n3_;have BK617:=n4_;have BK623:=n5_;have HB:=n6_;have BK634:=n7_;have GW634:=n8_;have GE634:=n9_;have NB616_634:=n10_;have NB634_616:=n11_;have NB617_634:=n12_;have NB634_617:=n13_;have NB623_634:=n14_;have NB634_623:=n15_;clear n0_ n1_ n2_ n3_ n4_ n5_ n6_ n7_ n8_ n9_ n10_ n11_ n12_ n13_ n14_ n15_;clear hb hbox hg;have hnb40:=NB634_616.out;have hnc40:=NB616_634.out;have hnb41:=NB634_617.out;have hnc41:=NB617_634.out;have hnb42:=NB634_623.out;have hnc42:=NB623_634.out;have hcz43_0 : w39.cell? ⟨gb634,0,none⟩ = some (.int .i64 0):=(blk_cell BK634.out 0).trans rfl;have hcz43_1 : w39.cell? ⟨gb634,1,none⟩ = some (.slice none 0 0):=(blk_cell BK634.out 1).trans rfl;have hfz43_0:=blk_frozen BK634.out 0;have hfz43_1:=blk_frozen BK634.out 1;obtain ⟨Ao44,co44,eo44⟩:=Kd.R_slice HO633.out;subst eo44)|((with_reducible refine gate_store (t:=30) (p:=14) rfl ?_);refine store_event (t:=30) (p:=14) (v:=?vo_w45) (w1:=((w39.setCell ⟨gb634,0,none⟩ (.int .i64 t630)).setCell ⟨gb634,1,none⟩ (.slice Ao44 t631.length co44))) ?hg ?ho ?hn ?hr ?_;(case ho => rfl);(case hg => rfl);(case hn => rfl);(case hr => first|(go_simp;done)|(go_simp;rfl));intro w45 hw;have n0_ : Aside0 (Kd.R (Kd.int .i64) 2 w45 w.heap.size (fun k_ => some k_≠(.slice Ao36 t626.length co36 : Value).ownBlock∧some k_≠(.slice Ao44 t631.length co44 : Value).ownBlock) (.slice Ao33 t619.length co33) t619):=⟨(by rw [hw];exact (by (with_reducible repeat (first|apply Kd.R_alloc|apply Kd.R_drewN|apply Kd.R_drew));exact Kd.R_mono (Kd.R_far (p:=⟨gb634,1,none⟩) (Kd.R_far (p:=⟨gb634,0,none⟩) (Kd.R_types HO621.out BK634.out (by decide)) (fun _ hk => hk.2) (.int .i64 t630)) (fun _ hk => hk.2) (.slice Ao44 t631.length co44)) (fun _ hk => by first|exact ⟨hk.1.1.2,hk.1.2⟩|(refine ⟨?_,?_⟩ <;> first|exact hk.2|exact hk.1.2|exact hk.1.1.2|exact hk.1.1.1.2|exact hk.1.1.1.1.2|exact hk.1.1.1.1.1.2|exact hk|exact hk.1|exact hk.1.1|exact hk.1.1.1|exact hk.1.1.1.1|exact hk.1.1.1.1.1|exact trivial))))⟩;have n1_ : Aside0 (Kd.R (Kd.int .i64) 2 w45 w.heap.size (fun k_ => some k_≠(.slice Ao33 t619.length co33 : Value).ownBlock∧some k_≠(.slice Ao44 t631.length co44 : Value).ownBlock) (.slice Ao36 t626.length co36) t626):=⟨(by rw [hw];exact (by (with_reducible repeat (first|apply Kd.R_alloc|apply Kd.R_drewN|apply Kd.R_drew));exact Kd.R_mono (Kd.R_far (p:=⟨gb634,1,none⟩) (Kd.R_far (p:=⟨gb634,0,none⟩) (Kd.R_types HO628.out BK634.out (by decide)) (fun _ hk => hk.2) (.int .i64 t630)) (fun _ hk => hk.2) (.slice Ao44 t631.length co44)) (fun _ hk => by first|exact ⟨hk.1.1.2,hk.1.2⟩|(refine ⟨?_,?_⟩ <;> first|exact hk.2|exact hk.1.2|exact hk.1.1.2|exact hk.1.1.1.2|exact hk.1.1.1.1.2|exact hk.1.1.1.1.1.2|exact hk|exact hk.1|exact hk.1.1|exact hk.1.1.1|exact hk.1.1.1.1|exact hk.1.1.1.1.1|exact trivial))))⟩;have n2_ : Aside0 (Kd.R (Kd.int .i64) 2 w45 w.heap.size (fun k_ => some k_≠(.slice Ao33 t619.length co33 : Value).ownBlock∧some k_≠(.slice Ao36 t626.length co36 : Value).ownBlock) (.slice Ao44 t631.length co44) t631):=⟨(by rw [hw];exact (by (with_reducible repeat (first|apply Kd.R_alloc|apply Kd.R_drewN|apply Kd.R_drew));exact Kd.R_mono (Kd.R_far (p:=⟨gb634,1,none⟩) (Kd.R_far (p:=⟨gb634,0,none⟩) (Kd.R_types HO633.out BK634.out (by decide)) (fun _ hk => hk.2) (.int .i64 t630)) (fun _ hk => hk.2) (.slice Ao44 t631.length co44)) (fun _ hk => by first|exact ⟨hk.1.1.2,hk.1.2⟩|(refine ⟨?_,?_⟩ <;> first|exact hk.2|exact hk.1.2|exact hk.1.1.2|exact hk.1.1.1.2|exact hk.1.1.1.1.2|exact hk.1.1.1.1.1.2|exact hk|exact hk.1|exact hk.1.1|exact hk.1.1.1|exact hk.1.1.1.1|exact hk.1.1.1.1.1|exact trivial))))⟩;have n3_ : Aside0 (w45.heap[gb616]? = some (.cells #[.int .i64 a1_0,.slice A1_1 l1_1.length c1_1] 30 (0,0))):=⟨(by rw [hw];exact (by (with_reducible repeat (first|refine blk_drewN ?_ _|refine blk_drew ?_|refine blk_alloc ?_ _));refine blk_far ?_ NB616_634.out _;(with_reducible repeat (first|refine blk_drewN ?_ _|refine blk_drew ?_|refine blk_alloc ?_ _));refine blk_far ?_ NB616_634.out _;(with_reducible repeat (first|refine blk_drewN ?_ _|refine blk_drew ?_|refine blk_alloc ?_ _));exact BK616.out))⟩;have n4_ : Aside0 (w45.heap[gb617]? = some (.cells #[.int .i64 0,.slice none 0 0] 30 (0,0))):=⟨(by rw [hw];exact (by (with_reducible repeat (first|refine blk_drewN ?_ _|refine blk_drew ?_|refine blk_alloc ?_ _));refine blk_far ?_ NB617_634.out _;(with_reducible repeat (first|refine blk_drewN ?_ _|refine blk_drew ?_|refine blk_alloc ?_ _));refine blk_far ?_ NB617_634.out _;(with_reducible repeat (first|refine blk_drewN ?_ _|refine blk_drew ?_|refine blk_alloc ?_ _));exact BK617.out))⟩;have n5_ : Aside0 (w45.heap[gb623]? = some (.cells #[.int .i64 t618,.slice Ao33 t619.length co33] 40 (0,0))):=⟨(by rw [hw];exact (by (with_reducible repeat (first|refine blk_drewN ?_ _|refine blk_drew ?_|refine blk_alloc ?_ _));refine blk_far ?_ NB623_634.out _;(with_reducible repeat (first|refine blk_drewN ?_ _|refine blk_drew ?_|refine blk_alloc ?_ _));refine blk_far ?_ NB623_634.out _;(with_reducible repeat (first|refine blk_drewN ?_ _|refine blk_drew ?_|refine blk_alloc ?_ _));exact BK623.out))⟩;have n6_ : Aside0 (w45.heap[gb634]? = some (.cells #[.int .i64 t630,.slice Ao44 t631.length co44] 30 (0,0))):=⟨(by rw [hw];exact (by (with_reducible repeat (first|refine blk_drewN ?_ _|refine blk_drew ?_|refine blk_alloc ?_ _));refine blk_put (cs:=#[.int .i64 t630,.slice none 0 0]) ?_ 1 _ rfl;(with_reducible repeat (first|refine blk_drewN ?_ _|refine blk_drew ?_|refine blk_alloc ?_ _));refine blk_put (cs:=#[.int .i64 0,.slice none 0 0]) ?_ 0 _ rfl;(with_reducible repeat (first|refine blk_drewN ?_ _|refine blk_drew ?_|refine blk_alloc ?_ _));exact BK634.out))⟩;have n7_ : Aside0 (Below w.heap.size w w45):=⟨(by rw [hw];exact (by repeat (first|(with_reducible first|exact HB.out|apply below_alloc|apply pw_below_drewN|apply below_drew1|refine below_set ?_ GE616.out|refine below_set ?_ GE617.out|refine below_set ?_ GE623.out|refine below_set ?_ GE634.out)|exact HB.out)))⟩;clear hw HO621 HO628 HO633 BK616 BK617 BK623 BK634 HB;have HO621:=n0_;have HO628:=n1_;have HO633:=n2_;have BK616:=n3_;have BK617:=n4_;have BK623:=n5_;have BK634:=n6_;have HB:=n7_;clear n0_ n1_ n2_ n3_ n4_ n5_ n6_ n7_;have hcz46_0 : w45.cell? ⟨gb634,0,none⟩ = some (.int .i64 t630):=(blk_cell BK634.out 0).trans rfl;have hcz46_1 : w45.cell? ⟨gb634,1,none⟩ = some (.slice Ao44 t631.length co44):=(blk_cell BK634.out 1).trans rfl;have hfz46_0:=blk_frozen BK634.out 0;have hfz46_1:=blk_frozen BK634.out 1;have p23 : 0 ≤ ((ji20) : Int):=of_decide_eq_true (by first|(with_reducible assumption)|assumption);have q23 : ((ji20) : Int) < ((t631.length : Int) : Int):=of_decide_eq_true (by first|(with_reducible assumption)|assumption);obtain ⟨go23,co23,eo23,gb23,gl23,cl23,HG23⟩:=Kd.R_form HO633.out (by omega);(first|cases eo23|(injection eo23 with ea_ en_ ec_;(first|subst ea_|(injection ea_ with ea_;subst ea_));subst ec_;clear en_));have GB23:=am gb23;have GG23:=am HG23;clear gb23 gl23 HG23;obtain ⟨hx23_0,hf23_0⟩:=Kd.R_celln 0 HO633.out ((ji20) : Int) p23 q23;replace p23:=eq_true p23;replace q23:=eq_true q23;obtain ⟨hy47_,hz47_⟩:=Kd.R_celln 0 HO633.out ((ji20) : Int) (of_decide_eq_true (by first|(with_reducible assumption)|assumption)) (of_decide_eq_true (by first|(with_reducible assumption)|assumption));have HP47:=Kd.R_putg HO633.out ((ji20) : Int) a4)|((with_reducible refine gate_store (t:=2) (p:=62) rfl ?_);refine store_event (t:=2) (p:=62) (v:=?vo_w48) (w1:=(w45.setCell ⟨go23,((ji20) : Int).toNat,none⟩ (.int .i64 a4))) ?hg ?ho ?hn ?hr ?_;(case ho => rfl);(case hg => rfl);(case hn => rfl);(case hr => first|(go_simp;done)|(go_simp;rfl));intro w48 hw;have hg : w45.grownBy w48 (some go23):=(by rw [hw];exact HP47.2);have hp_ : Kd.R (Kd.int .i64) 2 w48 w.heap.size (fun k_ => some k_≠(.slice Ao33 t619.length co33 : Value).ownBlock∧some k_≠(.slice Ao36 t626.length co36 : Value).ownBlock) (.slice (some ⟨go23,0,none⟩) t631.length co44) y635:=(by rw [hw,Ny635.out];exact HP47.1);clear HP47;have n0_:=am (blk_grown (g:=gb616) (o:=.cells #[.int .i64 a1_0,.slice A1_1 l1_1.length c1_1] 30 (0,0)) (bup BK616.out) hg (Kd.R_ne HO633.out BK616.out (by decide)));have n1_:=am (blk_grown (g:=gb617) (o:=.cells #[.int .i64 0,.slice none 0 0] 30 (0,0)) (bup BK617.out) hg (Kd.R_ne HO633.out BK617.out (by decide)));have n2_:=am (Kd.R_after (v:=(.slice (some ⟨go23,0,none⟩) t631.length co44)) (v1:=(.slice (some ⟨go23,0,none⟩) t631.length co44)) (ok:=(fun k_ => some k_≠(.slice Ao36 t626.length co36 : Value).ownBlock)) (kup HO621.out) hg (.inl rfl));have n3_:=am (blk_grown (g:=gb623) (o:=.cells #[.int .i64 t618,.slice Ao33 t619.length co33] 40 (0,0)) (bup BK623.out) hg (Kd.R_ne HO633.out BK623.out (by decide)));have n4_:=am (Kd.R_after (v:=(.slice (some ⟨go23,0,none⟩) t631.length co44)) (v1:=(.slice (some ⟨go23,0,none⟩) t631.length co44)) (ok:=(fun k_ => some k_≠(.slice Ao33 t619.length co33 : Value).ownBlock)) (kup HO628.out) hg (.inl rfl));have n5_:=am (hp_);have n6_:=am (blk_grown (g:=gb634) (o:=.cells #[.int .i64 t630,.slice (some ⟨go23,0,none⟩) t631.length co44] 30 (0,0)) (bup BK634.out) hg (Kd.R_ne HO633.out BK634.out (by decide)));have n7_:=am ((by rw [hw];exact below_set (HB.out) GB23.out : Below w.heap.size w w48));clear BK616 BK617 HO621 BK623 HO628 HO633 BK634 HB;have BK616:=n0_;have BK617:=n1_;have HO621:=n2_;have BK623:=n3_;have HO628:=n4_;have HO633:=n5_;have BK634:=n6_;have HB:=n7_;clear n0_ n1_ n2_ n3_ n4_ n5_ n6_ n7_;clear hg hw hp_;have hcz49_0 : w48.cell? ⟨gb634,0,none⟩ = some (.int .i64 t630):=(blk_cell BK634.out 0).trans rfl;have hcz49_1 : w48.cell? ⟨gb634,1,none⟩ = some (.slice (some ⟨go23,0,none⟩) t631.length co44):=(blk_cell BK634.out 1).trans rfl;have hfz49_0:=blk_frozen BK634.out 0;have hfz49_1:=blk_frozen BK634.out 1;have hcz50_0 : w48.cell? ⟨gb617,0,none⟩ = some (.int .i64 0):=(blk_cell BK617.out 0).trans rfl;have hcz50_1 : w48.cell? ⟨gb617,1,none⟩ = some (.slice none 0 0):=(blk_cell BK617.out 1).trans rfl;have hfz50_0:=blk_frozen BK617.out 0;have hfz50_1:=blk_frozen BK617.out 1))
           refine bodyPost_ret (results_ct rfl _ _ gb617 30 #[.int .i64 t630,.slice (some ⟨go23,0,none⟩) t631.length co44] (0,0) _ rfl (by (with_reducible repeat (first|refine blk_drewN ?_ _|refine blk_drew ?_|refine blk_alloc ?_ _));refine blk_put (cs:=#[.int .i64 t630,.slice none 0 0]) ?_ 1 _ rfl;(with_reducible repeat (first|refine blk_drewN ?_ _|refine blk_drew ?_|refine blk_alloc ?_ _));refine blk_put (cs:=#[.int .i64 0,.slice none 0 0]) ?_ 0 _ rfl;(with_reducible repeat (first|refine blk_drewN ?_ _|refine blk_drew ?_|refine blk_alloc ?_ _));exact BK617.out) Tryd.underlying30 rfl (by kernel_rfl)) rfl ?_
           exact ⟨_,by first|rfl|(simp [errW_none,errW_some] <;> rfl)|(simp only [← hji20];first|rfl|(simp [errW_none,errW_some] <;> rfl))|(simp [*,errW_none,errW_some] <;> rfl),by (with_reducible repeat (first|apply Kd.R_alloc|apply Kd.R_drewN|apply Kd.R_drew));exact Kd.R_mono (Kd.R_far (p:=⟨gb617,1,none⟩) (Kd.R_far (p:=⟨gb617,0,none⟩) (Kd.R_types HO633.out BK617.out (by decide)) (fun _ hk => hk.2) (.int .i64 t630)) (fun _ hk => hk.2) (.slice (some ⟨go23,0,none⟩) t631.length co44)) (fun _ hk => trivial),by repeat (first|(with_reducible first|exact HB.out|apply below_alloc|apply pw_below_drewN|apply below_drew1|refine below_set ?_ GE616.out|refine below_set ?_ GE617.out|refine below_set ?_ GE623.out|refine below_set ?_ GE634.out)|exact HB.out)⟩
          ·rw [if_neg c22] at H
           exact absurd H (by simp)
         ·rw [if_neg c21] at H
          exact absurd H (by simp)
        ·replace c18:=Bool.eq_false_iff.mpr c18
         subst c18
         have H1 : (some (0,([] : List Int),false)) = some (r1,r2,r3):=by rw [if_neg (show ¬ (false = true) by decide)] at H;exact H
         clear H
         have H:=H1
         clear H1
         simp only [Option.some.injEq,Prod.mk.injEq] at H
         obtain ⟨rfl,rfl,rfl⟩:=H
         go_enter Tryd.func41,Tryd.ntmps41
         go_wp2_with (first|((with_reducible refine gate_dst (N:=6) rfl ?_);(try (refine gate_guard (by rfl) ?_;dsimp only));refine box_event ?hg (N:=6) ?hd (cs:=#[.int .i64 a1_0,.slice A1_1 l1_1.length c1_1]) (t:=30) ?hr ?_;(case hd => rfl);(case hg => rfl);(case hr => first|(go_simp;done)|(go_simp;rfl));intro gb616 hg w51 hbox hb;have n0_:=am (below_step (by repeat (first|(with_reducible first|exact HB.out|apply below_alloc|apply pw_below_drewN|apply below_drew1)|exact HB.out)) hb);have n1_:=am (hbox);have n2_:=am ((by rw [hg];exact (below_size (by repeat (first|(with_reducible first|exact HB.out|apply below_alloc|apply pw_below_drewN|apply below_drew1)|exact HB.out))) : w.heap.size ≤ gb616));have n3_:=am ((by rw [hg];exact (below_size (by repeat (first|(with_reducible first|exact HB.out|apply below_alloc|apply pw_below_drewN|apply below_drew1)|exact HB.out))) : w.heap.size ≤ gb616));clear HB;have HB:=n0_;have BK616:=n1_;have GW616:=n2_;have GE616:=n3_;clear n0_ n1_ n2_ n3_;clear hb hbox hg)|((with_reducible refine gate_dst (N:=10) rfl ?_);(try (refine gate_guard (by rfl) ?_;dsimp only));refine box_event ?hg (N:=10) ?hd (cs:=#[.int .i64 0,.slice none 0 0]) (t:=30) ?hr ?_;(case hd => rfl);(case hg => rfl);(case hr => first|(go_simp;done)|(go_simp;rfl));intro gb617 hg w52 hbox hb;have n0_:=am (blk_below (g:=gb616) (o:=.cells #[.int .i64 a1_0,.slice A1_1 l1_1.length c1_1] 30 (0,0)) (bup BK616.out) hb);have n1_:=am (below_step (by repeat (first|(with_reducible first|exact HB.out|apply below_alloc|apply pw_below_drewN|apply below_drew1|refine below_set ?_ GE616.out)|exact HB.out)) hb);have n2_:=am (hbox);have n3_:=am ((by rw [hg];exact (below_size (by repeat (first|(with_reducible first|exact HB.out|apply below_alloc|apply pw_below_drewN|apply below_drew1|refine below_set ?_ GE616.out)|exact HB.out))) : w.heap.size ≤ gb617));have n4_:=am ((by rw [hg];exact (below_size (by repeat (first|(with_reducible first|exact HB.out|apply below_alloc|apply pw_below_drewN|apply below_drew1|refine below_set ?_ GE616.out)|exact HB.out))) : w.heap.size ≤ gb617));have n5_:=am ((by rw [hg];exact Nat.ne_of_lt (blk_lt (g:=gb616) (o:=.cells #[.int .i64 a1_0,.slice A1_1 l1_1.length c1_1] 30 (0,0)) (bup BK616.out)) : gb616≠gb617));have n6_:=am ((by rw [hg];exact Nat.ne_of_gt (blk_lt (g:=gb616) (o:=.cells #[.int .i64 a1_0,.slice A1_1 l1_1.length c1_1] 30 (0,0)) (bup BK616.out)) : gb617≠gb616));clear BK616 HB;have BK616:=n0_;have HB:=n1_;have BK617:=n2_;have GW617:=n3_;have GE617:=n4_;have NB616_617:=n5_;have NB617_616:=n6_;clear n0_ n1_ n2_ n3_ n4_ n5_ n6_;clear hb hbox hg;have hnb53:=NB616_617.out;have hnc53:=NB617_616.out;have hcz54_0 : w52.cell? ⟨gb616,0,none⟩ = some (.int .i64 a1_0):=(blk_cell BK616.out 0).trans rfl;have hcz54_1 : w52.cell? ⟨gb616,1,none⟩ = some (.slice A1_1 l1_1.length c1_1):=(blk_cell BK616.out 1).trans rfl;have hfz54_0:=blk_frozen BK616.out 0;have hfz54_1:=blk_frozen BK616.out 1)|((with_reducible refine gate_callee (f:=33) rfl ?_);refine goesL_ (some 19) rfl rfl Tryd.func33 (by kernel_rfl) rfl #[.slice A0 l0.length c0,.agg #[.int .i64 a1_0,.slice A1_1 l1_1.length c1_1],.int .i64 a2] rfl (by (try simp only [List.map_toArray,List.map_cons,List.map_nil]);first|done|rfl|(simp only [List.length_drop,List.length_take];rfl)) ?_;(with_reducible refine (spec_YoungObject.calls k _ _ l0 a1_0 _ _ l1_1 a2 t618 t619 true _ ?side1 ?side2 ?side3 ?side4 A6.out).mono ?_);(case side1 => repeat (first|exact (Kd.C_below HR0.out HB.out)|(with_reducible first|refine Kd.C_alloc ?_ _|refine Kd.C_drewN ?_ _|refine Kd.C_drew ?_)));(case side2 => exact HC0.out);(case side3 => repeat (first|exact (Kd.C_below HR1_1.out HB.out)|(with_reducible first|refine Kd.C_alloc ?_ _|refine Kd.C_drewN ?_ _|refine Kd.C_drew ?_)));(case side4 => exact HC1_1.out);rintro e w55 ⟨v620,rfl,ho0,hb⟩;refine ⟨_,rfl,?_⟩;have n0_:=am (Kd.R_lower ho0 (below_size (by repeat (first|(with_reducible first|exact HB.out|apply below_alloc|apply pw_below_drewN|apply below_drew1|refine below_set ?_ GE616.out|refine below_set ?_ GE617.out)|exact HB.out))));have n1_:=am (blk_below (g:=gb616) (o:=.cells #[.int .i64 a1_0,.slice A1_1 l1_1.length c1_1] 30 (0,0)) (bup BK616.out) hb);have n2_:=am (blk_below (g:=gb617) (o:=.cells #[.int .i64 0,.slice none 0 0] 30 (0,0)) (bup BK617.out) hb);have n3_:=am (below_step (by repeat (first|(with_reducible first|exact HB.out|apply below_alloc|apply pw_below_drewN|apply below_drew1|refine below_set ?_ GE616.out|refine below_set ?_ GE617.out)|exact HB.out)) hb);clear BK616 BK617 HB;have HO621:=n0_;have BK616:=n1_;have BK617:=n2_;have HB:=n3_;clear n0_ n1_ n2_ n3_;(try clear hb);(try clear hb2);(try clear hk);(try clear hi);(try clear ho0))|((with_reducible refine gate_dst (N:=12) rfl ?_);(try (refine gate_guard (by rfl) ?_;dsimp only));refine box_event ?hg (N:=12) ?hd (cs:=#[.int .i64 0,.slice none 0 0]) (t:=40) ?hr ?_;(case hd => rfl);(case hg => rfl);(case hr => first|(go_simp;done)|(go_simp;rfl));intro gb623 hg w56 hbox hb;have n0_:=am (Kd.R_below (kup HO621.out) hb);have n1_:=am (blk_below (g:=gb616) (o:=.cells #[.int .i64 a1_0,.slice A1_1 l1_1.length c1_1] 30 (0,0)) (bup BK616.out) hb);have n2_:=am (blk_below (g:=gb617) (o:=.cells #[.int .i64 0,.slice none 0 0] 30 (0,0)) (bup BK617.out) hb);have n3_:=am (below_step (by repeat (first|(with_reducible first|exact HB.out|apply below_alloc|apply pw_below_drewN|apply below_drew1|refine below_set ?_ GE616.out|refine below_set ?_ GE617.out)|exact HB.out)) hb);have n4_:=am (hbox);have n5_:=am ((by rw [hg];exact (below_size (by repeat (first|(with_reducible first|exact HB.out|apply below_alloc|apply pw_below_drewN|apply below_drew1|refine below_set ?_ GE616.out|refine below_set ?_ GE617.out)|exact HB.out))) : w.heap.size ≤ gb623));have n6_:=am ((by rw [hg];exact (below_size (by repeat (first|(with_reducible first|exact HB.out|apply below_alloc|apply pw_below_drewN|apply below_drew1|refine below_set ?_ GE616.out|refine below_set ?_ GE617.out)|exact HB.out))) : w.heap.size ≤ gb623));have n7_:=am ((by rw [hg];exact Nat.ne_of_lt (blk_lt (g:=gb616) (o:=.cells #[.int .i64 a1_0,.slice A1_1 l1_1.length c1_1] 30 (0,0)) (bup BK616.out)) : gb616≠gb623));have n8_:=am ((by rw [hg];exact Nat.ne_of_gt (blk_lt (g:=gb616) (o:=.cells #[.int .i64 a1_0,.slice A1_1 l1_1.length c1_1] 30 (0,0)) (bup BK616.out)) : gb623≠gb616));have n9_:=am ((by rw [hg];exact Nat.ne_of_lt (blk_lt (g:=gb617) (o:=.cells #[.int .i64 0,.slice none 0 0] 30 (0,0)) (bup BK617.out)) : gb617≠gb623));have n10_:=am ((by rw [hg];exact Nat.ne_of_gt (blk_lt (g:=gb617) (o:=.cells #[.int .i64 0,.slice none 0 0] 30 (0,0)) (bup BK617.out)) : gb623≠gb617));clear HO621 BK616 BK617 HB;have HO621:=n0_;have BK616:=n1_;have BK617:=n2_;have HB:=n3_;have BK623:=n4_;have GW623:=n5_;have GE623:=n6_;have NB616_623:=n7_;have NB623_616:=n8_;have NB617_623:=n9_;have NB623_617:=n10_;clear n0_ n1_ n2_ n3_ n4_ n5_ n6_ n7_ n8_ n9_ n10_;clear hb hbox hg;have hnb57:=NB623_616.out;have hnc57:=NB616_623.out;have hnb58:=NB623_617.out;have hnc58:=NB617_623.out;have hcz59_0 : w56.cell? ⟨gb623,0,none⟩ = some (.int .i64 0):=(blk_cell BK623.out 0).trans rfl;have hcz59_1 : w56.cell? ⟨gb623,1,none⟩ = some (.slice none 0 0):=(blk_cell BK623.out 1).trans rfl;have hfz59_0:=blk_frozen BK623.out 0;have hfz59_1:=blk_frozen BK623.out 1;obtain ⟨Ao60,co60,eo60⟩:=Kd.R_slice HO621.out;subst eo60)|(go_at_call 67;(with_reducible refine (spec_l1In.calls a3 0 (wrap64 ((t619.length : Int) - 1)) true _ A8.out).mono ?_);rintro e w' ⟨rfl,⟨nd,rfl⟩⟩;have p625 : 0 ≤ (t618 : Int):=of_decide_eq_true (by first|(with_reducible assumption)|assumption);have q625 : t618 < (l0.length : Int):=of_decide_eq_true (by first|(with_reducible assumption)|assumption);obtain ⟨ad625,e625,hx625_0⟩:=Kd.at_string HR0.out t618 p625 q625;cases e625;have hn625_0 : ad625.block≠gb623:=Nat.ne_of_lt (Nat.lt_of_lt_of_le (by have:=World.block_lt_of_cell? _ _ hx625_0;first|rwa [add_block] at this|exact this) GW623.out);have hn625_1 : ad625.block≠gb623:=Nat.ne_of_lt (Nat.lt_of_lt_of_le (by have:=World.block_lt_of_cell? _ _ hx625_0;first|rwa [add_block] at this|exact this) GW623.out);replace hx625_0:=(HB.out.cell (World.block_lt_of_cell? w _ hx625_0)).trans hx625_0;replace hx625_0:=(cell_far (p:=⟨gb623,0,none⟩) (by first|(rw [add_block];exact hn625_0)|(show (Addr.add _ _).block≠_;rw [add_block];exact hn625_0)|exact hn625_0) (.int .i64 t618)).trans hx625_0;replace hx625_0:=(cell_far (p:=⟨gb623,1,none⟩) (by first|(rw [add_block];exact hn625_1)|(show (Addr.add _ _).block≠_;rw [add_block];exact hn625_1)|exact hn625_1) (.slice Ao60 t619.length co60)).trans hx625_0;clear hn625_0 hn625_1;replace p625:=eq_true p625;replace q625:=eq_true q625;have p14 : 0 ≤ (a3 : Int):=of_decide_eq_true (by first|(with_reducible assumption)|assumption);have q14 : a3 < ((rdOf ByteArray.empty l0 t618).size : Int):=of_decide_eq_true (by first|(with_reducible assumption)|assumption);have hx14:=bt_at (rdOf ByteArray.empty l0 t618) a3;replace p14:=eq_true p14;replace q14:=eq_true q14;have hcz61_0 : w56.cell? ⟨gb616,0,none⟩ = some (.int .i64 a1_0):=(blk_cell BK616.out 0).trans rfl;have hcz61_1 : w56.cell? ⟨gb616,1,none⟩ = some (.slice A1_1 l1_1.length c1_1):=(blk_cell BK616.out 1).trans rfl;have hfz61_0:=blk_frozen BK616.out 0;have hfz61_1:=blk_frozen BK616.out 1)|(go_at_call 24;(with_reducible refine (spec_Starts.calls k _ _ l0 a1_0 _ _ l1_1 t626 _ ?side1 ?side2 ?side3 ?side4 A16.out).mono ?_);(case side1 => exact Kd.C_below HR0.out (by repeat (first|(with_reducible first|exact HB.out|apply below_alloc|apply pw_below_drewN|apply below_drew1|refine below_set ?_ GE616.out|refine below_set ?_ GE617.out|refine below_set ?_ GE623.out)|exact HB.out)));(case side2 => exact HC0.out);(case side3 => exact Kd.C_below HR1_1.out (by repeat (first|(with_reducible first|exact HB.out|apply below_alloc|apply pw_below_drewN|apply below_drew1|refine below_set ?_ GE616.out|refine below_set ?_ GE617.out|refine below_set ?_ GE623.out)|exact HB.out)));(case side4 => exact HC1_1.out);rintro e w62 ⟨v627,rfl,ho0,hb⟩;have n0_:=am (Kd.R_elder' (by (with_reducible repeat (first|apply Kd.R_alloc|apply Kd.R_drewN|apply Kd.R_drew));exact (Kd.R_mono (Kd.R_far (p:=⟨gb623,1,none⟩) (Kd.R_far (p:=⟨gb623,0,none⟩) (Kd.R_types HO621.out BK623.out (by decide)) (fun _ hk => hk.2) (.int .i64 t618)) (fun _ hk => hk.2) (.slice Ao60 t619.length co60)) (fun _ h_ => h_.1))) (Kd.R_base ho0) hb);have n1_:=am (Kd.R_lower (Kd.R_new' ho0 (Kd.R_lt (by (with_reducible repeat (first|apply Kd.R_alloc|apply Kd.R_drewN|apply Kd.R_drew));exact (Kd.R_mono (Kd.R_far (p:=⟨gb623,1,none⟩) (Kd.R_far (p:=⟨gb623,0,none⟩) (Kd.R_types HO621.out BK623.out (by decide)) (fun _ hk => hk.2) (.int .i64 t618)) (fun _ hk => hk.2) (.slice Ao60 t619.length co60)) (fun _ h_ => h_.1))))) (below_size (by repeat (first|(with_reducible first|exact HB.out|apply below_alloc|apply pw_below_drewN|apply below_drew1|refine below_set ?_ GE616.out|refine below_set ?_ GE617.out|refine below_set ?_ GE623.out)|exact HB.out))));have n2_:=am (blk_below (g:=gb616) (o:=.cells #[.int .i64 a1_0,.slice A1_1 l1_1.length c1_1] 30 (0,0)) (by (with_reducible repeat (first|refine blk_drewN ?_ _|refine blk_drew ?_|refine blk_alloc ?_ _));refine blk_far ?_ NB616_623.out _;(with_reducible repeat (first|refine blk_drewN ?_ _|refine blk_drew ?_|refine blk_alloc ?_ _));refine blk_far ?_ NB616_623.out _;(with_reducible repeat (first|refine blk_drewN ?_ _|refine blk_drew ?_|refine blk_alloc ?_ _));exact BK616.out) hb);have n3_:=am (blk_below (g:=gb617) (o:=.cells #[.int .i64 0,.slice none 0 0] 30 (0,0)) (by (with_reducible repeat (first|refine blk_drewN ?_ _|refine blk_drew ?_|refine blk_alloc ?_ _));refine blk_far ?_ NB617_623.out _;(with_reducible repeat (first|refine blk_drewN ?_ _|refine blk_drew ?_|refine blk_alloc ?_ _));refine blk_far ?_ NB617_623.out _;(with_reducible repeat (first|refine blk_drewN ?_ _|refine blk_drew ?_|refine blk_alloc ?_ _));exact BK617.out) hb);have n4_:=am (blk_below (g:=gb623) (o:=.cells #[.int .i64 t618,.slice Ao60 t619.length co60] 40 (0,0)) (by (with_reducible repeat (first|refine blk_drewN ?_ _|refine blk_drew ?_|refine blk_alloc ?_ _));refine blk_put (cs:=#[.int .i64 t618,.slice none 0 0]) ?_ 1 _ rfl;(with_reducible repeat (first|refine blk_drewN ?_ _|refine blk_drew ?_|refine blk_alloc ?_ _));refine blk_put (cs:=#[.int .i64 0,.slice none 0 0]) ?_ 0 _ rfl;(with_reducible repeat (first|refine blk_drewN ?_ _|refine blk_drew ?_|refine blk_alloc ?_ _));exact BK623.out) hb);have n5_:=am (below_step (by repeat (first|(with_reducible first|exact HB.out|apply below_alloc|apply pw_below_drewN|apply below_drew1|refine below_set ?_ GE616.out|refine below_set ?_ GE617.out|refine below_set ?_ GE623.out)|exact HB.out)) hb);clear HO621 BK616 BK617 BK623 HB;have HO621:=n0_;have HO628:=n1_;have BK616:=n2_;have BK617:=n3_;have BK623:=n4_;have HB:=n5_;clear n0_ n1_ n2_ n3_ n4_ n5_;(try clear hb);(try clear hb2);(try clear hk);(try clear hi);(try clear ho0);obtain ⟨Ao63,co63,eo63⟩:=Kd.R_slice HO628.out;subst eo63)|(go_at_call 59;(with_reducible refine (spec_l8Ref.calls k _ _ t626 a4 false _ ?side1 ?side2 A17.out).mono ?_);(case side1 => repeat (first|exact (Kd.R_reads' HO628.out).2.2|(with_reducible first|refine Kd.C_alloc ?_ _|refine Kd.C_drewN ?_ _|refine Kd.C_drew ?_)));(case side2 => exact (Kd.R_reads' HO628.out).2.1);rintro e w' ⟨rfl,⟨nd,rfl⟩⟩;(try (rw [drewN_self w62];generalize hq_ : World.drewN w62 _ = w62;have n0_ : Aside0 (Kd.R (Kd.int .i64) 2 w62 w.heap.size (fun k_ => some k_≠(.slice Ao63 t626.length co63 : Value).ownBlock) (.slice Ao60 t619.length co60) t619):=⟨by rw [← hq_];exact (by (with_reducible repeat (first|apply Kd.R_alloc|apply Kd.R_drewN|apply Kd.R_drew));exact Kd.R_mono HO621.out (fun _ hk => hk.2))⟩;have n1_ : Aside0 (Kd.R (Kd.int .i64) 2 w62 w.heap.size (fun k_ => some k_≠(.slice Ao60 t619.length co60 : Value).ownBlock) (.slice Ao63 t626.length co63) t626):=⟨by rw [← hq_];exact (by (with_reducible repeat (first|apply Kd.R_alloc|apply Kd.R_drewN|apply Kd.R_drew));exact Kd.R_mono HO628.out (fun _ hk => hk.2))⟩;have n2_ : Aside0 (w62.heap[gb616]? = some (.cells #[.int .i64 a1_0,.slice A1_1 l1_1.length c1_1] 30 (0,0))):=⟨by rw [← hq_];exact (bup BK616.out)⟩;have n3_ : Aside0 (w62.heap[gb617]? = some (.cells #[.int .i64 0,.slice none 0 0] 30 (0,0))):=⟨by rw [← hq_];exact (bup BK617.out)⟩;have n4_ : Aside0 (w62.heap[gb623]? = some (.cells #[.int .i64 t618,.slice Ao60 t619.length co60] 40 (0,0))):=⟨by rw [← hq_];exact (bup BK623.out)⟩;have n5_ : Aside0 (Below w.heap.size w w62):=⟨by rw [← hq_];exact (by repeat (first|(with_reducible first|exact HB.out|apply below_alloc|apply pw_below_drewN|apply below_drew1|refine below_set ?_ GE616.out|refine below_set ?_ GE617.out|refine below_set ?_ GE623.out)|exact HB.out))⟩;clear HO621 HO628 BK616 BK617 BK623 HB hq_;have HO621:=n0_;have HO628:=n1_;have BK616:=n2_;have BK617:=n3_;have BK623:=n4_;have HB:=n5_;clear n0_ n1_ n2_ n3_ n4_ n5_));have hcz64_0 : w62.cell? ⟨gb617,0,none⟩ = some (.int .i64 0):=(blk_cell BK617.out 0).trans rfl;have hcz64_1 : w62.cell? ⟨gb617,1,none⟩ = some (.slice none 0 0):=(blk_cell BK617.out 1).trans rfl;have hfz64_0:=blk_frozen BK617.out 0;have hfz64_1:=blk_frozen BK617.out 1))
         refine bodyPost_ret (results_ct rfl _ _ gb617 30 #[.int .i64 0,.slice none 0 0] (0,0) _ rfl (by (with_reducible repeat (first|refine blk_drewN ?_ _|refine blk_drew ?_|refine blk_alloc ?_ _));refine blk_put (cs:=#[.int .i64 0,.slice none 0 0]) ?_ 1 _ rfl;(with_reducible repeat (first|refine blk_drewN ?_ _|refine blk_drew ?_|refine blk_alloc ?_ _));refine blk_put (cs:=#[.int .i64 0,.slice none 0 0]) ?_ 0 _ rfl;(with_reducible repeat (first|refine blk_drewN ?_ _|refine blk_drew ?_|refine blk_alloc ?_ _));exact BK617.out) Tryd.underlying30 rfl (by kernel_rfl)) rfl ?_
         exact ⟨_,by first|rfl|(simp [errW_none,errW_some] <;> rfl)|(simp [*,errW_none,errW_some] <;> rfl),by first|exact Kd.R_nil _ _ _ _ _|exact Kd.N_nil _ _ _ _ _|exact Kd.V_nil _ _ _ _ _|exact Kd.Q_nil _ _ _ _ _|exact Kd.S_nil _ _ _ _ _,by repeat (first|(with_reducible first|exact HB.out|apply below_alloc|apply pw_below_drewN|apply below_drew1|refine below_set ?_ GE616.out|refine below_set ?_ GE617.out|refine below_set ?_ GE623.out)|exact HB.out)⟩
       ·rw [if_neg c15] at H
        have c15b0 : ((bt (rdOf ByteArray.empty l0 t618) a3) == 114) = false:=beq_eq_false_iff_ne.mpr c15
        have c15b1 : ((bt (rdOf ByteArray.empty l0 t618) a3) != 114) = true:=bne_iff_ne.mpr c15
        replace H:=Option.bind_eq_some_iff.mp H
        obtain ⟨⟨t636,t637⟩,A650,H⟩:=H
        try dsimp only at H
        have A65:=am A650
        clear A650
        obtain ⟨ji66,hji66⟩ : ∃ j_ : Int,(wrap64 ((wrap64 ((wrap64 (Int.tdiv a2 2)) + 1)) + a3)) = j_:=⟨_,rfl⟩
        replace H : (if 0 ≤ (ji66) then (if (ji66) < (t637.length : Int) then (some (t636,(t637.set ((ji66) : Int).toNat a4),true)) else (none)) else (none)) = some (r1,r2,r3):=by first|(rw [hji66] at H;exact H)|(simp only [hji66] at H ⊢;exact H)
        (try rw [hji66] at A6)
        (try rw [hji66] at A8)
        (try rw [hji66] at A65)
        have hji66w : (IntKind.i64.wrap ((wrap64 ((wrap64 (Int.tdiv a2 2)) + 1)) + a3)) = ji66:=(i64_w _).trans hji66
        by_cases c67 : 0 ≤ (ji66)
        ·rw [if_pos c67] at H
         have c67b0 : decide (0 ≤ (ji66)) = true:=decide_eq_true c67
         clear c67
         by_cases c68 : (ji66) < (t637.length : Int)
         ·rw [if_pos c68] at H
          have c68b0 : decide ((ji66) < (t637.length : Int)) = true:=decide_eq_true c68
          clear c68
          obtain ⟨y641,hy641⟩ : ∃ y_ : List Int,y_ = (t637.set ((ji66) : Int).toNat a4):=⟨_,rfl⟩
          replace H : (some (t636,y641,true)) = some (r1,r2,r3):=by first|(rw [hy641];with_reducible exact H)|(have H2_:=(Option.bind_some _ _).symm.trans H;rw [hy641];with_reducible exact H2_)|(have H2_:=(Option.bind_some _ _).symm.trans H;with_reducible exact H2_)|with_reducible exact H|(rw [hy641];exact H)|exact H
          have Ny641:=am hy641
          clear hy641
          simp only [Option.some.injEq,Prod.mk.injEq] at H
          obtain ⟨rfl,rfl,rfl⟩:=H
          go_enter Tryd.func41,Tryd.ntmps41
          go_wp2_with (first|((with_reducible refine gate_dst (N:=6) rfl ?_);(try (refine gate_guard (by rfl) ?_;dsimp only));refine box_event ?hg (N:=6) ?hd (cs:=#[.int .i64 a1_0,.slice A1_1 l1_1.length c1_1]) (t:=30) ?hr ?_;(case hd => rfl);(case hg => rfl);(case hr => first|(go_simp;done)|(go_simp;rfl));intro gb616 hg w70 hbox hb;have n0_:=am (below_step (by repeat (first|(with_reducible first|exact HB.out|apply below_alloc|apply pw_below_drewN|apply below_drew1)|exact HB.out)) hb);have n1_:=am (hbox);have n2_:=am ((by rw [hg];exact (below_size (by repeat (first|(with_reducible first|exact HB.out|apply below_alloc|apply pw_below_drewN|apply below_drew1)|exact HB.out))) : w.heap.size ≤ gb616));have n3_:=am ((by rw [hg];exact (below_size (by repeat (first|(with_reducible first|exact HB.out|apply below_alloc|apply pw_below_drewN|apply below_drew1)|exact HB.out))) : w.heap.size ≤ gb616));clear HB;have HB:=n0_;have BK616:=n1_;have GW616:=n2_;have GE616:=n3_;clear n0_ n1_ n2_ n3_;clear hb hbox hg)|((with_reducible refine gate_dst (N:=10) rfl ?_);(try (refine gate_guard (by rfl) ?_;dsimp only));refine box_event ?hg (N:=10) ?hd (cs:=#[.int .i64 0,.slice none 0 0]) (t:=30) ?hr ?_;(case hd => rfl);(case hg => rfl);(case hr => first|(go_simp;done)|(go_simp;rfl));intro gb617 hg w71 hbox hb;have n0_:=am (blk_below (g:=gb616) (o:=.cells #[.int .i64 a1_0,.slice A1_1 l1_1.length c1_1] 30 (0,0)) (bup BK616.out) hb);have n1_:=am (below_step (by repeat (first|(with_reducible first|exact HB.out|apply below_alloc|apply pw_below_drewN|apply below_drew1|refine below_set ?_ GE616.out)|exact HB.out)) hb);have n2_:=am (hbox);have n3_:=am ((by rw [hg];exact (below_size (by repeat (first|(with_reducible first|exact HB.out|apply below_alloc|apply pw_below_drewN|apply below_drew1|refine below_set ?_ GE616.out)|exact HB.out))) : w.heap.size ≤ gb617));have n4_:=am ((by rw [hg];exact (below_size (by repeat (first|(with_reducible first|exact HB.out|apply below_alloc|apply pw_below_drewN|apply below_drew1|refine below_set ?_ GE616.out)|exact HB.out))) : w.heap.size ≤ gb617));have n5_:=am ((by rw [hg];exact Nat.ne_of_lt (blk_lt (g:=gb616) (o:=.cells #[.int .i64 a1_0,.slice A1_1 l1_1.length c1_1] 30 (0,0)) (bup BK616.out)) : gb616≠gb617));have n6_:=am ((by rw [hg];exact Nat.ne_of_gt (blk_lt (g:=gb616) (o:=.cells #[.int .i64 a1_0,.slice A1_1 l1_1.length c1_1] 30 (0,0)) (bup BK616.out)) : gb617≠gb616));clear BK616 HB;have BK616:=n0_;have HB:=n1_;have BK617:=n2_;have GW617:=n3_;have GE617:=n4_;have NB616_617:=n5_;have NB617_616:=n6_;clear n0_ n1_ n2_ n3_ n4_ n5_ n6_;clear hb hbox hg;have hnb72:=NB616_617.out;have hnc72:=NB617_616.out;have hcz73_0 : w71.cell? ⟨gb616,0,none⟩ = some (.int .i64 a1_0):=(blk_cell BK616.out 0).trans rfl;have hcz73_1 : w71.cell? ⟨gb616,1,none⟩ = some (.slice A1_1 l1_1.length c1_1):=(blk_cell BK616.out 1).trans rfl;have hfz73_0:=blk_frozen BK616.out 0;have hfz73_1:=blk_frozen BK616.out 1)|((with_reducible refine gate_callee (f:=33) rfl ?_);refine goesL_ (some 19) rfl rfl Tryd.func33 (by kernel_rfl) rfl #[.slice A0 l0.length c0,.agg #[.int .i64 a1_0,.slice A1_1 l1_1.length c1_1],.int .i64 a2] rfl (by (try simp only [List.map_toArray,List.map_cons,List.map_nil]);first|done|rfl|(simp only [List.length_drop,List.length_take];rfl)) ?_;(with_reducible refine (spec_YoungObject.calls k _ _ l0 a1_0 _ _ l1_1 a2 t618 t619 true _ ?side1 ?side2 ?side3 ?side4 A6.out).mono ?_);(case side1 => repeat (first|exact (Kd.C_below HR0.out HB.out)|(with_reducible first|refine Kd.C_alloc ?_ _|refine Kd.C_drewN ?_ _|refine Kd.C_drew ?_)));(case side2 => exact HC0.out);(case side3 => repeat (first|exact (Kd.C_below HR1_1.out HB.out)|(with_reducible first|refine Kd.C_alloc ?_ _|refine Kd.C_drewN ?_ _|refine Kd.C_drew ?_)));(case side4 => exact HC1_1.out);rintro e w74 ⟨v620,rfl,ho0,hb⟩;refine ⟨_,rfl,?_⟩;have n0_:=am (Kd.R_lower ho0 (below_size (by repeat (first|(with_reducible first|exact HB.out|apply below_alloc|apply pw_below_drewN|apply below_drew1|refine below_set ?_ GE616.out|refine below_set ?_ GE617.out)|exact HB.out))));have n1_:=am (blk_below (g:=gb616) (o:=.cells #[.int .i64 a1_0,.slice A1_1 l1_1.length c1_1] 30 (0,0)) (bup BK616.out) hb);have n2_:=am (blk_below (g:=gb617) (o:=.cells #[.int .i64 0,.slice none 0 0] 30 (0,0)) (bup BK617.out) hb);have n3_:=am (below_step (by repeat (first|(with_reducible first|exact HB.out|apply below_alloc|apply pw_below_drewN|apply below_drew1|refine below_set ?_ GE616.out|refine below_set ?_ GE617.out)|exact HB.out)) hb);clear BK616 BK617 HB;have HO621:=n0_;have BK616:=n1_;have BK617:=n2_;have HB:=n3_;clear n0_ n1_ n2_ n3_;(try clear hb);(try clear hb2);(try clear hk);(try clear hi);(try clear ho0))|((with_reducible refine gate_dst (N:=12) rfl ?_);(try (refine gate_guard (by rfl) ?_;dsimp only));refine box_event ?hg (N:=12) ?hd (cs:=#[.int .i64 0,.slice none 0 0]) (t:=40) ?hr ?_;(case hd => rfl);(case hg => rfl);(case hr => first|(go_simp;done)|(go_simp;rfl));intro gb623 hg w75 hbox hb;have n0_:=am (Kd.R_below (kup HO621.out) hb);have n1_:=am (blk_below (g:=gb616) (o:=.cells #[.int .i64 a1_0,.slice A1_1 l1_1.length c1_1] 30 (0,0)) (bup BK616.out) hb);have n2_:=am (blk_below (g:=gb617) (o:=.cells #[.int .i64 0,.slice none 0 0] 30 (0,0)) (bup BK617.out) hb);have n3_:=am (below_step (by repeat (first|(with_reducible first|exact HB.out|apply below_alloc|apply pw_below_drewN|apply below_drew1|refine below_set ?_ GE616.out|refine below_set ?_ GE617.out)|exact HB.out)) hb);have n4_:=am (hbox);have n5_:=am ((by rw [hg];exact (below_size (by repeat (first|(with_reducible first|exact HB.out|apply below_alloc|apply pw_below_drewN|apply below_drew1|refine below_set ?_ GE616.out|refine below_set ?_ GE617.out)|exact HB.out))) : w.heap.size ≤ gb623));have n6_:=am ((by rw [hg];exact (below_size (by repeat (first|(with_reducible first|exact HB.out|apply below_alloc|apply pw_below_drewN|apply below_drew1|refine below_set ?_ GE616.out|refine below_set ?_ GE617.out)|exact HB.out))) : w.heap.size ≤ gb623));have n7_:=am ((by rw [hg];exact Nat.ne_of_lt (blk_lt (g:=gb616) (o:=.cells #[.int .i64 a1_0,.slice A1_1 l1_1.length c1_1] 30 (0,0)) (bup BK616.out)) : gb616≠gb623));have n8_:=am ((by rw [hg];exact Nat.ne_of_gt (blk_lt (g:=gb616) (o:=.cells #[.int .i64 a1_0,.slice A1_1 l1_1.length c1_1] 30 (0,0)) (bup BK616.out)) : gb623≠gb616));have n9_:=am ((by rw [hg];exact Nat.ne_of_lt (blk_lt (g:=gb617) (o:=.cells #[.int .i64 0,.slice none 0 0] 30 (0,0)) (bup BK617.out)) : gb617≠gb623));have n10_:=am ((by rw [hg];exact Nat.ne_of_gt (blk_lt (g:=gb617) (o:=.cells #[.int .i64 0,.slice none 0 0] 30 (0,0)) (bup BK617.out)) : gb623≠gb617));clear HO621 BK616 BK617 HB;have HO621:=n0_;have BK616:=n1_;have BK617:=n2_;have HB:=n3_;have BK623:=n4_;have GW623:=n5_;have GE623:=n6_;have NB616_623:=n7_;have NB623_616:=n8_;have NB617_623:=n9_;have NB623_617:=n10_;clear n0_ n1_ n2_ n3_ n4_ n5_ n6_ n7_ n8_ n9_ n10_;clear hb hbox hg;have hnb76:=NB623_616.out;have hnc76:=NB616_623.out;have hnb77:=NB623_617.out;have hnc77:=NB617_623.out;have hcz78_0 : w75.cell? ⟨gb623,0,none⟩ = some (.int .i64 0):=(blk_cell BK623.out 0).trans rfl;have hcz78_1 : w75.cell? ⟨gb623,1,none⟩ = some (.slice none 0 0):=(blk_cell BK623.out 1).trans rfl;have hfz78_0:=blk_frozen BK623.out 0;have hfz78_1:=blk_frozen BK623.out 1;obtain ⟨Ao79,co79,eo79⟩:=Kd.R_slice HO621.out;subst eo79)|(go_at_call 67;(with_reducible refine (spec_l1In.calls a3 0 (wrap64 ((t619.length : Int) - 1)) true _ A8.out).mono ?_);rintro e w' ⟨rfl,⟨nd,rfl⟩⟩;have p625 : 0 ≤ (t618 : Int):=of_decide_eq_true (by first|(with_reducible assumption)|assumption);have q625 : t618 < (l0.length : Int):=of_decide_eq_true (by first|(with_reducible assumption)|assumption);obtain ⟨ad625,e625,hx625_0⟩:=Kd.at_string HR0.out t618 p625 q625;cases e625;have hn625_0 : ad625.block≠gb623:=Nat.ne_of_lt (Nat.lt_of_lt_of_le (by have:=World.block_lt_of_cell? _ _ hx625_0;first|rwa [add_block] at this|exact this) GW623.out);have hn625_1 : ad625.block≠gb623:=Nat.ne_of_lt (Nat.lt_of_lt_of_le (by have:=World.block_lt_of_cell? _ _ hx625_0;first|rwa [add_block] at this|exact this) GW623.out);replace hx625_0:=(HB.out.cell (World.block_lt_of_cell? w _ hx625_0)).trans hx625_0;replace hx625_0:=(cell_far (p:=⟨gb623,0,none⟩) (by first|(rw [add_block];exact hn625_0)|(show (Addr.add _ _).block≠_;rw [add_block];exact hn625_0)|exact hn625_0) (.int .i64 t618)).trans hx625_0;replace hx625_0:=(cell_far (p:=⟨gb623,1,none⟩) (by first|(rw [add_block];exact hn625_1)|(show (Addr.add _ _).block≠_;rw [add_block];exact hn625_1)|exact hn625_1) (.slice Ao79 t619.length co79)).trans hx625_0;clear hn625_0 hn625_1;replace p625:=eq_true p625;replace q625:=eq_true q625;have p14 : 0 ≤ (a3 : Int):=of_decide_eq_true (by first|(with_reducible assumption)|assumption);have q14 : a3 < ((rdOf ByteArray.empty l0 t618).size : Int):=of_decide_eq_true (by first|(with_reducible assumption)|assumption);have hx14:=bt_at (rdOf ByteArray.empty l0 t618) a3;replace p14:=eq_true p14;replace q14:=eq_true q14;have hcz80_0 : w75.cell? ⟨gb616,0,none⟩ = some (.int .i64 a1_0):=(blk_cell BK616.out 0).trans rfl;have hcz80_1 : w75.cell? ⟨gb616,1,none⟩ = some (.slice A1_1 l1_1.length c1_1):=(blk_cell BK616.out 1).trans rfl;have hfz80_0:=blk_frozen BK616.out 0;have hfz80_1:=blk_frozen BK616.out 1)|((with_reducible refine gate_callee (f:=68) rfl ?_);refine goesL_ (some 53) rfl rfl Tryd.func68 (by kernel_rfl) rfl #[.agg #[.int .i64 a1_0,.slice A1_1 l1_1.length c1_1]] rfl (by (try simp only [List.map_toArray,List.map_cons,List.map_nil]);first|done|rfl|(simp only [List.length_drop,List.length_take];rfl)) ?_;(with_reducible refine (spec_l8Copy.calls a1_0 _ _ l1_1 t636 t637 _ ?side1 ?side2 A65.out).mono ?_);(case side1 => exact Kd.C_below HR1_1.out (by repeat (first|(with_reducible first|exact HB.out|apply below_alloc|apply pw_below_drewN|apply below_drew1|refine below_set ?_ GE616.out|refine below_set ?_ GE617.out|refine below_set ?_ GE623.out)|exact HB.out)));(case side2 => exact HC1_1.out);rintro e w81 ⟨v638,rfl,ho0,hb⟩;refine ⟨_,rfl,?_⟩;have n0_:=am (Kd.R_elder' (by (with_reducible repeat (first|apply Kd.R_alloc|apply Kd.R_drewN|apply Kd.R_drew));exact (Kd.R_mono (Kd.R_far (p:=⟨gb623,1,none⟩) (Kd.R_far (p:=⟨gb623,0,none⟩) (Kd.R_types HO621.out BK623.out (by decide)) (fun _ hk => hk.2) (.int .i64 t618)) (fun _ hk => hk.2) (.slice Ao79 t619.length co79)) (fun _ h_ => h_.1))) (Kd.R_base ho0) hb);have n1_:=am (Kd.R_lower (Kd.R_new' ho0 (Kd.R_lt (by (with_reducible repeat (first|apply Kd.R_alloc|apply Kd.R_drewN|apply Kd.R_drew));exact (Kd.R_mono (Kd.R_far (p:=⟨gb623,1,none⟩) (Kd.R_far (p:=⟨gb623,0,none⟩) (Kd.R_types HO621.out BK623.out (by decide)) (fun _ hk => hk.2) (.int .i64 t618)) (fun _ hk => hk.2) (.slice Ao79 t619.length co79)) (fun _ h_ => h_.1))))) (below_size (by repeat (first|(with_reducible first|exact HB.out|apply below_alloc|apply pw_below_drewN|apply below_drew1|refine below_set ?_ GE616.out|refine below_set ?_ GE617.out|refine below_set ?_ GE623.out)|exact HB.out))));have n2_:=am (blk_below (g:=gb616) (o:=.cells #[.int .i64 a1_0,.slice A1_1 l1_1.length c1_1] 30 (0,0)) (by (with_reducible repeat (first|refine blk_drewN ?_ _|refine blk_drew ?_|refine blk_alloc ?_ _));refine blk_far ?_ NB616_623.out _;(with_reducible repeat (first|refine blk_drewN ?_ _|refine blk_drew ?_|refine blk_alloc ?_ _));refine blk_far ?_ NB616_623.out _;(with_reducible repeat (first|refine blk_drewN ?_ _|refine blk_drew ?_|refine blk_alloc ?_ _));exact BK616.out) hb);have n3_:=am (blk_below (g:=gb617) (o:=.cells #[.int .i64 0,.slice none 0 0] 30 (0,0)) (by (with_reducible repeat (first|refine blk_drewN ?_ _|refine blk_drew ?_|refine blk_alloc ?_ _));refine blk_far ?_ NB617_623.out _;(with_reducible repeat (first|refine blk_drewN ?_ _|refine blk_drew ?_|refine blk_alloc ?_ _));refine blk_far ?_ NB617_623.out _;(with_reducible repeat (first|refine blk_drewN ?_ _|refine blk_drew ?_|refine blk_alloc ?_ _));exact BK617.out) hb);have n4_:=am (blk_below (g:=gb623) (o:=.cells #[.int .i64 t618,.slice Ao79 t619.length co79] 40 (0,0)) (by (with_reducible repeat (first|refine blk_drewN ?_ _|refine blk_drew ?_|refine blk_alloc ?_ _));refine blk_put (cs:=#[.int .i64 t618,.slice none 0 0]) ?_ 1 _ rfl;(with_reducible repeat (first|refine blk_drewN ?_ _|refine blk_drew ?_|refine blk_alloc ?_ _));refine blk_put (cs:=#[.int .i64 0,.slice none 0 0]) ?_ 0 _ rfl;(with_reducible repeat (first|refine blk_drewN ?_ _|refine blk_drew ?_|refine blk_alloc ?_ _));exact BK623.out) hb);have n5_:=am (below_step (by repeat (first|(with_reducible first|exact HB.out|apply below_alloc|apply pw_below_drewN|apply below_drew1|refine below_set ?_ GE616.out|refine below_set ?_ GE617.out|refine below_set ?_ GE623.out)|exact HB.out)) hb);clear HO621 BK616 BK617 BK623 HB;have HO621:=n0_;have HO639:=n1_;have BK616:=n2_;have BK617:=n3_;have BK623:=n4_;have HB:=n5_;clear n0_ n1_ n2_ n3_ n4_ n5_;(try clear hb);(try clear hb2);(try clear hk);(try clear hi);(try clear ho0))|((with_reducible refine gate_dst (N:=14) rfl ?_);(try (refine gate_guard (by rfl) ?_;dsimp only));refine box_event ?hg (N:=14) ?hd (cs:=#[.int .i64 0,.slice none 0 0]) (t:=30) ?hr ?_;(case hd => rfl);(case hg => rfl);(case hr => first|(go_simp;done)|(go_simp;rfl));intro gb640 hg w82 hbox hb;have n0_:=am (Kd.R_below (kup HO621.out) hb);have n1_:=am (Kd.R_below (kup HO639.out) hb);have n2_:=am (blk_below (g:=gb616) (o:=.cells #[.int .i64 a1_0,.slice A1_1 l1_1.length c1_1] 30 (0,0)) (bup BK616.out) hb);have n3_:=am (blk_below (g:=gb617) (o:=.cells #[.int .i64 0,.slice none 0 0] 30 (0,0)) (bup BK617.out) hb);have n4_:=am (blk_below (g:=gb623) (o:=.cells #[.int .i64 t618,.slice Ao79 t619.length co79] 40 (0,0)) (bup BK623.out) hb);have n5_:=am (below_step (by repeat (first|(with_reducible first|exact HB.out|apply below_alloc|apply pw_below_drewN|apply below_drew1|refine below_set ?_ GE616.out|refine below_set ?_ GE617.out|refine below_set ?_ GE623.out)|exact HB.out)) hb);have n6_:=am (hbox);have n7_:=am ((by rw [hg];exact (below_size (by repeat (first|(with_reducible first|exact HB.out|apply below_alloc|apply pw_below_drewN|apply below_drew1|refine below_set ?_ GE616.out|refine below_set ?_ GE617.out|refine below_set ?_ GE623.out)|exact HB.out))) : w.heap.size ≤ gb640));have n8_:=am ((by rw [hg];exact (below_size (by repeat (first|(with_reducible first|exact HB.out|apply below_alloc|apply pw_below_drewN|apply below_drew1|refine below_set ?_ GE616.out|refine below_set ?_ GE617.out|refine below_set ?_ GE623.out)|exact HB.out))) : w.heap.size ≤ gb640));have n9_:=am ((by rw [hg];exact Nat.ne_of_lt (blk_lt (g:=gb616) (o:=.cells #[.int .i64 a1_0,.slice A1_1 l1_1.length c1_1] 30 (0,0)) (bup BK616.out)) : gb616≠gb640));have n10_:=am ((by rw [hg];exact Nat.ne_of_gt (blk_lt (g:=gb616) (o:=.cells #[.int .i64 a1_0,.slice A1_1 l1_1.length c1_1] 30 (0,0)) (bup BK616.out)) : gb640≠gb616));have n11_:=am ((by rw [hg];exact Nat.ne_of_lt (blk_lt (g:=gb617) (o:=.cells #[.int .i64 0,.slice none 0 0] 30 (0,0)) (bup BK617.out)) : gb617≠gb640));have n12_:=am ((by rw [hg];exact Nat.ne_of_gt (blk_lt (g:=gb617) (o:=.cells #[.int .i64 0,.slice none 0 0] 30 (0,0)) (bup BK617.out)) : gb640≠gb617));have n13_:=am ((by rw [hg];exact Nat.ne_of_lt (blk_lt (g:=gb623) (o:=.cells #[.int .i64 t618,.slice Ao79 t619.length co79] 40 (0,0)) (bup BK623.out)) : gb623≠gb640));have n14_:=am ((by rw [hg];exact Nat.ne_of_gt (blk_lt (g:=gb623) (o:=.cells #[.int .i64 t618,.slice Ao79 t619.length co79] 40 (0,0)) (bup BK623.out)) : gb640≠gb623));clear HO621 HO639 BK616 BK617 BK623 HB;have HO621:=n0_;have HO639:=n1_;have BK616:=n2_;have BK617:=n3_;have BK623:=n4_;have HB:=n5_;have BK640:=n6_;have GW640:=n7_;have GE640:=n8_;have NB616_640:=n9_;have NB640_616:=n10_;have NB617_640:=n11_;have NB640_617:=n12_;have NB623_640:=n13_;have NB640_623:=n14_;clear n0_ n1_ n2_ n3_ n4_ n5_ n6_ n7_ n8_ n9_ n10_ n11_ n12_ n13_ n14_;clear hb hbox hg;have hnb83:=NB640_616.out;have hnc83:=NB616_640.out;have hnb84:=NB640_617.out;have hnc84:=NB617_640.out;have hnb85:=NB640_623.out;have hnc85:=NB623_640.out;have hcz86_0 : w82.cell? ⟨gb640,0,none⟩ = some (.int .i64 0):=(blk_cell BK640.out 0).trans rfl;have hcz86_1 : w82.cell? ⟨gb640,1,none⟩ = some (.slice none 0 0):=(blk_cell BK640.out 1).trans rfl;have hfz86_0:=blk_frozen BK640.out 0;have hfz86_1:=blk_frozen BK640.out 1;obtain ⟨Ao87,co87,eo87⟩:=Kd.R_slice HO639.out;subst eo87)|((with_reducible refine gate_store (t:=30) (p:=14) rfl ?_);refine store_event (t:=30) (p:=14) (v:=?vo_w88) (w1:=((w82.setCell ⟨gb640,0,none⟩ (.int .i64 t636)).setCell ⟨gb640,1,none⟩ (.slice Ao87 t637.length co87))) ?hg ?ho ?hn ?hr ?_;(case ho => rfl);(case hg => rfl);(case hn => rfl);(case hr => first|(go_simp;done)|(go_simp;rfl));intro w88 hw;have n0_ : Aside0 (Kd.R (Kd.int .i64) 2 w88 w.heap.size (fun k_ => some k_≠(.slice Ao87 t637.length co87 : Value).ownBlock) (.slice Ao79 t619.length co79) t619):=⟨(by rw [hw];exact (by (with_reducible repeat (first|apply Kd.R_alloc|apply Kd.R_drewN|apply Kd.R_drew));exact Kd.R_mono (Kd.R_far (p:=⟨gb640,1,none⟩) (Kd.R_far (p:=⟨gb640,0,none⟩) (Kd.R_types HO621.out BK640.out (by decide)) (fun _ hk => hk.2) (.int .i64 t636)) (fun _ hk => hk.2) (.slice Ao87 t637.length co87)) (fun _ hk => by first|exact hk.1.2|(first|exact hk.2|exact hk.1.2|exact hk.1.1.2|exact hk.1.1.1.2|exact hk.1.1.1.1.2|exact hk.1.1.1.1.1.2|exact hk|exact hk.1|exact hk.1.1|exact hk.1.1.1|exact hk.1.1.1.1|exact hk.1.1.1.1.1|exact trivial)|(refine ⟨?_,?_⟩ <;> first|exact hk.2|exact hk.1.2|exact hk.1.1.2|exact hk.1.1.1.2|exact hk.1.1.1.1.2|exact hk.1.1.1.1.1.2|exact hk|exact hk.1|exact hk.1.1|exact hk.1.1.1|exact hk.1.1.1.1|exact hk.1.1.1.1.1|exact trivial))))⟩;have n1_ : Aside0 (Kd.R (Kd.int .i64) 2 w88 w.heap.size (fun k_ => some k_≠(.slice Ao79 t619.length co79 : Value).ownBlock) (.slice Ao87 t637.length co87) t637):=⟨(by rw [hw];exact (by (with_reducible repeat (first|apply Kd.R_alloc|apply Kd.R_drewN|apply Kd.R_drew));exact Kd.R_mono (Kd.R_far (p:=⟨gb640,1,none⟩) (Kd.R_far (p:=⟨gb640,0,none⟩) (Kd.R_types HO639.out BK640.out (by decide)) (fun _ hk => hk.2) (.int .i64 t636)) (fun _ hk => hk.2) (.slice Ao87 t637.length co87)) (fun _ hk => by first|exact hk.1.2|(first|exact hk.2|exact hk.1.2|exact hk.1.1.2|exact hk.1.1.1.2|exact hk.1.1.1.1.2|exact hk.1.1.1.1.1.2|exact hk|exact hk.1|exact hk.1.1|exact hk.1.1.1|exact hk.1.1.1.1|exact hk.1.1.1.1.1|exact trivial)|(refine ⟨?_,?_⟩ <;> first|exact hk.2|exact hk.1.2|exact hk.1.1.2|exact hk.1.1.1.2|exact hk.1.1.1.1.2|exact hk.1.1.1.1.1.2|exact hk|exact hk.1|exact hk.1.1|exact hk.1.1.1|exact hk.1.1.1.1|exact hk.1.1.1.1.1|exact trivial))))⟩;have n2_ : Aside0 (w88.heap[gb616]? = some (.cells #[.int .i64 a1_0,.slice A1_1 l1_1.length c1_1] 30 (0,0))):=⟨(by rw [hw];exact (by (with_reducible repeat (first|refine blk_drewN ?_ _|refine blk_drew ?_|refine blk_alloc ?_ _));refine blk_far ?_ NB616_640.out _;(with_reducible repeat (first|refine blk_drewN ?_ _|refine blk_drew ?_|refine blk_alloc ?_ _));refine blk_far ?_ NB616_640.out _;(with_reducible repeat (first|refine blk_drewN ?_ _|refine blk_drew ?_|refine blk_alloc ?_ _));exact BK616.out))⟩;have n3_ : Aside0 (w88.heap[gb617]? = some (.cells #[.int .i64 0,.slice none 0 0] 30 (0,0))):=⟨(by rw [hw];exact (by (with_reducible repeat (first|refine blk_drewN ?_ _|refine blk_drew ?_|refine blk_alloc ?_ _));refine blk_far ?_ NB617_640.out _;(with_reducible repeat (first|refine blk_drewN ?_ _|refine blk_drew ?_|refine blk_alloc ?_ _));refine blk_far ?_ NB617_640.out _;(with_reducible repeat (first|refine blk_drewN ?_ _|refine blk_drew ?_|refine blk_alloc ?_ _));exact BK617.out))⟩;have n4_ : Aside0 (w88.heap[gb623]? = some (.cells #[.int .i64 t618,.slice Ao79 t619.length co79] 40 (0,0))):=⟨(by rw [hw];exact (by (with_reducible repeat (first|refine blk_drewN ?_ _|refine blk_drew ?_|refine blk_alloc ?_ _));refine blk_far ?_ NB623_640.out _;(with_reducible repeat (first|refine blk_drewN ?_ _|refine blk_drew ?_|refine blk_alloc ?_ _));refine blk_far ?_ NB623_640.out _;(with_reducible repeat (first|refine blk_drewN ?_ _|refine blk_drew ?_|refine blk_alloc ?_ _));exact BK623.out))⟩;have n5_ : Aside0 (w88.heap[gb640]? = some (.cells #[.int .i64 t636,.slice Ao87 t637.length co87] 30 (0,0))):=⟨(by rw [hw];exact (by (with_reducible repeat (first|refine blk_drewN ?_ _|refine blk_drew ?_|refine blk_alloc ?_ _));refine blk_put (cs:=#[.int .i64 t636,.slice none 0 0]) ?_ 1 _ rfl;(with_reducible repeat (first|refine blk_drewN ?_ _|refine blk_drew ?_|refine blk_alloc ?_ _));refine blk_put (cs:=#[.int .i64 0,.slice none 0 0]) ?_ 0 _ rfl;(with_reducible repeat (first|refine blk_drewN ?_ _|refine blk_drew ?_|refine blk_alloc ?_ _));exact BK640.out))⟩;have n6_ : Aside0 (Below w.heap.size w w88):=⟨(by rw [hw];exact (by repeat (first|(with_reducible first|exact HB.out|apply below_alloc|apply pw_below_drewN|apply below_drew1|refine below_set ?_ GE616.out|refine below_set ?_ GE617.out|refine below_set ?_ GE623.out|refine below_set ?_ GE640.out)|exact HB.out)))⟩;clear hw HO621 HO639 BK616 BK617 BK623 BK640 HB;have HO621:=n0_;have HO639:=n1_;have BK616:=n2_;have BK617:=n3_;have BK623:=n4_;have BK640:=n5_;have HB:=n6_;clear n0_ n1_ n2_ n3_ n4_ n5_ n6_;have hcz89_0 : w88.cell? ⟨gb640,0,none⟩ = some (.int .i64 t636):=(blk_cell BK640.out 0).trans rfl;have hcz89_1 : w88.cell? ⟨gb640,1,none⟩ = some (.slice Ao87 t637.length co87):=(blk_cell BK640.out 1).trans rfl;have hfz89_0:=blk_frozen BK640.out 0;have hfz89_1:=blk_frozen BK640.out 1;have p69 : 0 ≤ ((ji66) : Int):=of_decide_eq_true (by first|(with_reducible assumption)|assumption);have q69 : ((ji66) : Int) < ((t637.length : Int) : Int):=of_decide_eq_true (by first|(with_reducible assumption)|assumption);obtain ⟨go69,co69,eo69,gb69,gl69,cl69,HG69⟩:=Kd.R_form HO639.out (by omega);(first|cases eo69|(injection eo69 with ea_ en_ ec_;(first|subst ea_|(injection ea_ with ea_;subst ea_));subst ec_;clear en_));have GB69:=am gb69;have GG69:=am HG69;clear gb69 gl69 HG69;obtain ⟨hx69_0,hf69_0⟩:=Kd.R_celln 0 HO639.out ((ji66) : Int) p69 q69;replace p69:=eq_true p69;replace q69:=eq_true q69;obtain ⟨hy90_,hz90_⟩:=Kd.R_celln 0 HO639.out ((ji66) : Int) (of_decide_eq_true (by first|(with_reducible assumption)|assumption)) (of_decide_eq_true (by first|(with_reducible assumption)|assumption));have HP90:=Kd.R_putg HO639.out ((ji66) : Int) a4)|((with_reducible refine gate_store (t:=2) (p:=62) rfl ?_);refine store_event (t:=2) (p:=62) (v:=?vo_w91) (w1:=(w88.setCell ⟨go69,((ji66) : Int).toNat,none⟩ (.int .i64 a4))) ?hg ?ho ?hn ?hr ?_;(case ho => rfl);(case hg => rfl);(case hn => rfl);(case hr => first|(go_simp;done)|(go_simp;rfl));intro w91 hw;have hg : w88.grownBy w91 (some go69):=(by rw [hw];exact HP90.2);have hp_ : Kd.R (Kd.int .i64) 2 w91 w.heap.size (fun k_ => some k_≠(.slice Ao79 t619.length co79 : Value).ownBlock) (.slice (some ⟨go69,0,none⟩) t637.length co87) y641:=(by rw [hw,Ny641.out];exact HP90.1);clear HP90;have n0_:=am (blk_grown (g:=gb616) (o:=.cells #[.int .i64 a1_0,.slice A1_1 l1_1.length c1_1] 30 (0,0)) (bup BK616.out) hg (Kd.R_ne HO639.out BK616.out (by decide)));have n1_:=am (blk_grown (g:=gb617) (o:=.cells #[.int .i64 0,.slice none 0 0] 30 (0,0)) (bup BK617.out) hg (Kd.R_ne HO639.out BK617.out (by decide)));have n2_:=am (Kd.R_after (v:=(.slice (some ⟨go69,0,none⟩) t637.length co87)) (v1:=(.slice (some ⟨go69,0,none⟩) t637.length co87)) (ok:=(fun _ => True)) (by (with_reducible repeat (first|apply Kd.R_alloc|apply Kd.R_drewN|apply Kd.R_drew));exact Kd.R_mono HO621.out (fun _ hk => ⟨trivial,hk⟩)) hg (.inl rfl));have n3_:=am (blk_grown (g:=gb623) (o:=.cells #[.int .i64 t618,.slice Ao79 t619.length co79] 40 (0,0)) (bup BK623.out) hg (Kd.R_ne HO639.out BK623.out (by decide)));have n4_:=am (hp_);have n5_:=am (blk_grown (g:=gb640) (o:=.cells #[.int .i64 t636,.slice (some ⟨go69,0,none⟩) t637.length co87] 30 (0,0)) (bup BK640.out) hg (Kd.R_ne HO639.out BK640.out (by decide)));have n6_:=am ((by rw [hw];exact below_set (HB.out) GB69.out : Below w.heap.size w w91));clear BK616 BK617 HO621 BK623 HO639 BK640 HB;have BK616:=n0_;have BK617:=n1_;have HO621:=n2_;have BK623:=n3_;have HO639:=n4_;have BK640:=n5_;have HB:=n6_;clear n0_ n1_ n2_ n3_ n4_ n5_ n6_;clear hg hw hp_;have hcz92_0 : w91.cell? ⟨gb640,0,none⟩ = some (.int .i64 t636):=(blk_cell BK640.out 0).trans rfl;have hcz92_1 : w91.cell? ⟨gb640,1,none⟩ = some (.slice (some ⟨go69,0,none⟩) t637.length co87):=(blk_cell BK640.out 1).trans rfl;have hfz92_0:=blk_frozen BK640.out 0;have hfz92_1:=blk_frozen BK640.out 1;have hcz93_0 : w91.cell? ⟨gb617,0,none⟩ = some (.int .i64 0):=(blk_cell BK617.out 0).trans rfl;have hcz93_1 : w91.cell? ⟨gb617,1,none⟩ = some (.slice none 0 0):=(blk_cell BK617.out 1).trans rfl;have hfz93_0:=blk_frozen BK617.out 0;have hfz93_1:=blk_frozen BK617.out 1))
          refine bodyPost_ret (results_ct rfl _ _ gb617 30 #[.int .i64 t636,.slice (some ⟨go69,0,none⟩) t637.length co87] (0,0) _ rfl (by (with_reducible repeat (first|refine blk_drewN ?_ _|refine blk_drew ?_|refine blk_alloc ?_ _));refine blk_put (cs:=#[.int .i64 t636,.slice none 0 0]) ?_ 1 _ rfl;(with_reducible repeat (first|refine blk_drewN ?_ _|refine blk_drew ?_|refine blk_alloc ?_ _));refine blk_put (cs:=#[.int .i64 0,.slice none 0 0]) ?_ 0 _ rfl;(with_reducible repeat (first|refine blk_drewN ?_ _|refine blk_drew ?_|refine blk_alloc ?_ _));exact BK617.out) Tryd.underlying30 rfl (by kernel_rfl)) rfl ?_
          exact ⟨_,by first|rfl|(simp [errW_none,errW_some] <;> rfl)|(simp only [← hji66];first|rfl|(simp [errW_none,errW_some] <;> rfl))|(simp [*,errW_none,errW_some] <;> rfl),by (with_reducible repeat (first|apply Kd.R_alloc|apply Kd.R_drewN|apply Kd.R_drew));exact Kd.R_mono (Kd.R_far (p:=⟨gb617,1,none⟩) (Kd.R_far (p:=⟨gb617,0,none⟩) (Kd.R_types HO639.out BK617.out (by decide)) (fun _ hk => hk.2) (.int .i64 t636)) (fun _ hk => hk.2) (.slice (some ⟨go69,0,none⟩) t637.length co87)) (fun _ hk => trivial),by repeat (first|(with_reducible first|exact HB.out|apply below_alloc|apply pw_below_drewN|apply below_drew1|refine below_set ?_ GE616.out|refine below_set ?_ GE617.out|refine below_set ?_ GE623.out|refine below_set ?_ GE640.out)|exact HB.out)⟩
         ·rw [if_neg c68] at H
          exact absurd H (by simp)
        ·rw [if_neg c67] at H
         exact absurd H (by simp)
      ·rw [if_neg c13] at H
       exact absurd H (by simp)
     ·rw [if_neg c12] at H
      exact absurd H (by simp)
    ·rw [if_neg c11] at H
     exact absurd H (by simp)
   ·rw [if_neg c10] at H
    exact absurd H (by simp)
  ·replace c9:=Bool.eq_false_iff.mpr c9
   subst c9
   have H1 : (some (0,([] : List Int),false)) = some (r1,r2,r3):=by rw [if_neg (show ¬ (false = true) by decide)] at H;exact H
   clear H
   have H:=H1
   clear H1
   simp only [Option.some.injEq,Prod.mk.injEq] at H
   obtain ⟨rfl,rfl,rfl⟩:=H
   go_enter Tryd.func41,Tryd.ntmps41
   go_wp2_with (first|((with_reducible refine gate_dst (N:=6) rfl ?_);(try (refine gate_guard (by rfl) ?_;dsimp only));refine box_event ?hg (N:=6) ?hd (cs:=#[.int .i64 a1_0,.slice A1_1 l1_1.length c1_1]) (t:=30) ?hr ?_;(case hd => rfl);(case hg => rfl);(case hr => first|(go_simp;done)|(go_simp;rfl));intro gb616 hg w94 hbox hb;have n0_:=am (below_step (lup HB.out) hb);have n1_:=am (hbox);have n2_:=am ((by rw [hg];exact (below_size (lup HB.out)) : w.heap.size ≤ gb616));have n3_:=am ((by rw [hg];exact (below_size (lup HB.out)) : w.heap.size ≤ gb616));clear HB;have HB:=n0_;have BK616:=n1_;have GW616:=n2_;have GE616:=n3_;clear n0_ n1_ n2_ n3_;clear hb hbox hg)|((with_reducible refine gate_dst (N:=10) rfl ?_);(try (refine gate_guard (by rfl) ?_;dsimp only));refine box_event ?hg (N:=10) ?hd (cs:=#[.int .i64 0,.slice none 0 0]) (t:=30) ?hr ?_;(case hd => rfl);(case hg => rfl);(case hr => first|(go_simp;done)|(go_simp;rfl));intro gb617 hg w95 hbox hb;have n0_:=am (blk_below (bup BK616.out) hb);have n1_:=am (below_step (lup HB.out) hb);have n2_:=am (hbox);have n3_:=am ((by rw [hg];exact (below_size (lup HB.out)) : w.heap.size ≤ gb617));have n4_:=am ((by rw [hg];exact (below_size (lup HB.out)) : w.heap.size ≤ gb617));have n5_:=am ((by rw [hg];exact Nat.ne_of_lt (blk_lt (bup BK616.out)) : gb616≠gb617));have n6_:=am ((by rw [hg];exact Nat.ne_of_gt (blk_lt (bup BK616.out)) : gb617≠gb616));clear BK616 HB;have BK616:=n0_;have HB:=n1_;have BK617:=n2_;have GW617:=n3_;have GE617:=n4_;have NB616_617:=n5_;have NB617_616:=n6_;clear n0_ n1_ n2_ n3_ n4_ n5_ n6_;clear hb hbox hg;have hnb96:=NB616_617.out;have hnc96:=NB617_616.out;have hcz97_0 : w95.cell? ⟨gb616,0,none⟩ = some (.int .i64 a1_0):=(blk_cell BK616.out 0).trans rfl;have hcz97_1 : w95.cell? ⟨gb616,1,none⟩ = some (.slice A1_1 l1_1.length c1_1):=(blk_cell BK616.out 1).trans rfl;have hfz97_0:=blk_frozen BK616.out 0;have hfz97_1:=blk_frozen BK616.out 1)|((with_reducible refine gate_callee (f:=33) rfl ?_);refine goesL_ (some 19) rfl rfl Tryd.func33 (by kernel_rfl) rfl #[.slice A0 l0.length c0,.agg #[.int .i64 a1_0,.slice A1_1 l1_1.length c1_1],.int .i64 a2] rfl (by (try simp only [List.map_toArray,List.map_cons,List.map_nil]);first|done|rfl|(simp only [List.length_drop,List.length_take];rfl)) ?_;(with_reducible refine (spec_YoungObject.calls k _ _ l0 a1_0 _ _ l1_1 a2 t618 t619 true _ ?side1 ?side2 ?side3 ?side4 A6.out).mono ?_);(case side1 => repeat (first|exact (Kd.C_below HR0.out HB.out)|(with_reducible first|refine Kd.C_alloc ?_ _|refine Kd.C_drewN ?_ _|refine Kd.C_drew ?_)));(case side2 => exact HC0.out);(case side3 => repeat (first|exact (Kd.C_below HR1_1.out HB.out)|(with_reducible first|refine Kd.C_alloc ?_ _|refine Kd.C_drewN ?_ _|refine Kd.C_drew ?_)));(case side4 => exact HC1_1.out);rintro e w98 ⟨v620,rfl,ho0,hb⟩;refine ⟨_,rfl,?_⟩;have n0_:=am (Kd.R_lower ho0 (below_size (lup HB.out)));have n1_:=am (blk_below (bup BK616.out) hb);have n2_:=am (blk_below (bup BK617.out) hb);have n3_:=am (below_step (lup HB.out) hb);clear BK616 BK617 HB;have HO621:=n0_;have BK616:=n1_;have BK617:=n2_;have HB:=n3_;clear n0_ n1_ n2_ n3_;(try clear hb);(try clear hb2);(try clear hk);(try clear hi);(try clear ho0))|((with_reducible refine gate_dst (N:=12) rfl ?_);(try (refine gate_guard (by rfl) ?_;dsimp only));refine box_event ?hg (N:=12) ?hd (cs:=#[.int .i64 0,.slice none 0 0]) (t:=40) ?hr ?_;(case hd => rfl);(case hg => rfl);(case hr => first|(go_simp;done)|(go_simp;rfl));intro gb623 hg w99 hbox hb;have n0_:=am (Kd.R_below (kup HO621.out) hb);have n1_:=am (blk_below (bup BK616.out) hb);have n2_:=am (blk_below (bup BK617.out) hb);have n3_:=am (below_step (lup HB.out) hb);have n4_:=am (hbox);have n5_:=am ((by rw [hg];exact (below_size (lup HB.out)) : w.heap.size ≤ gb623));have n6_:=am ((by rw [hg];exact (below_size (lup HB.out)) : w.heap.size ≤ gb623));have n7_:=am ((by rw [hg];exact Nat.ne_of_lt (blk_lt (bup BK616.out)) : gb616≠gb623));have n8_:=am ((by rw [hg];exact Nat.ne_of_gt (blk_lt (bup BK616.out)) : gb623≠gb616));have n9_:=am ((by rw [hg];exact Nat.ne_of_lt (blk_lt (bup BK617.out)) : gb617≠gb623));have n10_:=am ((by rw [hg];exact Nat.ne_of_gt (blk_lt (bup BK617.out)) : gb623≠gb617));clear HO621 BK616 BK617 HB;have HO621:=n0_;have BK616:=n1_;have BK617:=n2_;have HB:=n3_;have BK623:=n4_;have GW623:=n5_;have GE623:=n6_;have NB616_623:=n7_;have NB623_616:=n8_;have NB617_623:=n9_;have NB623_617:=n10_;clear n0_ n1_ n2_ n3_ n4_ n5_ n6_ n7_ n8_ n9_ n10_;clear hb hbox hg;have hnb100:=NB623_616.out;have hnc100:=NB616_623.out;have hnb101:=NB623_617.out;have hnc101:=NB617_623.out;have hcz102_0 : w99.cell? ⟨gb623,0,none⟩ = some (.int .i64 0):=(blk_cell BK623.out 0).trans rfl;have hcz102_1 : w99.cell? ⟨gb623,1,none⟩ = some (.slice none 0 0):=(blk_cell BK623.out 1).trans rfl;have hfz102_0:=blk_frozen BK623.out 0;have hfz102_1:=blk_frozen BK623.out 1;obtain ⟨Ao103,co103,eo103⟩:=Kd.R_slice HO621.out;subst eo103)|(go_at_call 67;(with_reducible refine (spec_l1In.calls a3 0 (wrap64 ((t619.length : Int) - 1)) false _ A8.out).mono ?_);rintro e w' ⟨rfl,⟨nd,rfl⟩⟩;have hcz104_0 : w99.cell? ⟨gb617,0,none⟩ = some (.int .i64 0):=(blk_cell BK617.out 0).trans rfl;have hcz104_1 : w99.cell? ⟨gb617,1,none⟩ = some (.slice none 0 0):=(blk_cell BK617.out 1).trans rfl;have hfz104_0:=blk_frozen BK617.out 0;have hfz104_1:=blk_frozen BK617.out 1))
   refine bodyPost_ret (results_ct rfl _ _ gb617 30 #[.int .i64 0,.slice none 0 0] (0,0) _ rfl (by (with_reducible repeat (first|refine blk_drewN ?_ _|refine blk_drew ?_|refine blk_alloc ?_ _));refine blk_put (cs:=#[.int .i64 0,.slice none 0 0]) ?_ 1 _ rfl;(with_reducible repeat (first|refine blk_drewN ?_ _|refine blk_drew ?_|refine blk_alloc ?_ _));refine blk_put (cs:=#[.int .i64 0,.slice none 0 0]) ?_ 0 _ rfl;(with_reducible repeat (first|refine blk_drewN ?_ _|refine blk_drew ?_|refine blk_alloc ?_ _));refine blk_far ?_ NB617_623.out _;(with_reducible repeat (first|refine blk_drewN ?_ _|refine blk_drew ?_|refine blk_alloc ?_ _));refine blk_far ?_ NB617_623.out _;(with_reducible repeat (first|refine blk_drewN ?_ _|refine blk_drew ?_|refine blk_alloc ?_ _));exact BK617.out) Tryd.underlying30 rfl (by kernel_rfl)) rfl ?_
   exact ⟨_,by first|rfl|(simp [errW_none,errW_some] <;> rfl)|(simp [*,errW_none,errW_some] <;> rfl),by first|exact Kd.R_nil _ _ _ _ _|exact Kd.N_nil _ _ _ _ _|exact Kd.V_nil _ _ _ _ _|exact Kd.Q_nil _ _ _ _ _|exact Kd.S_nil _ _ _ _ _,by repeat (first|(with_reducible first|exact HB.out|apply below_alloc|apply pw_below_drewN|apply below_drew1|refine below_set ?_ GE616.out|refine below_set ?_ GE617.out|refine below_set ?_ GE623.out)|exact HB.out)⟩
 ·replace c7:=Bool.eq_false_iff.mpr c7
  subst c7
  have H1 : (some (0,([] : List Int),false)) = some (r1,r2,r3):=by rw [if_neg (show ¬ (false = true) by decide)] at H;exact H
  clear H
  have H:=H1
  clear H1
  simp only [Option.some.injEq,Prod.mk.injEq] at H
  obtain ⟨rfl,rfl,rfl⟩:=H
  go_enter Tryd.func41,Tryd.ntmps41
  go_wp2_with (first|((with_reducible refine gate_dst (N:=6) rfl ?_);(try (refine gate_guard (by rfl) ?_;dsimp only));refine box_event ?hg (N:=6) ?hd (cs:=#[.int .i64 a1_0,.slice A1_1 l1_1.length c1_1]) (t:=30) ?hr ?_;(case hd => rfl);(case hg => rfl);(case hr => first|(go_simp;done)|(go_simp;rfl));intro gb616 hg w105 hbox hb;have n0_:=am (below_step (lup HB.out) hb);have n1_:=am (hbox);have n2_:=am ((by rw [hg];exact (below_size (lup HB.out)) : w.heap.size ≤ gb616));have n3_:=am ((by rw [hg];exact (below_size (lup HB.out)) : w.heap.size ≤ gb616));clear HB;have HB:=n0_;have BK616:=n1_;have GW616:=n2_;have GE616:=n3_;clear n0_ n1_ n2_ n3_;clear hb hbox hg)|((with_reducible refine gate_dst (N:=10) rfl ?_);(try (refine gate_guard (by rfl) ?_;dsimp only));refine box_event ?hg (N:=10) ?hd (cs:=#[.int .i64 0,.slice none 0 0]) (t:=30) ?hr ?_;(case hd => rfl);(case hg => rfl);(case hr => first|(go_simp;done)|(go_simp;rfl));intro gb617 hg w106 hbox hb;have n0_:=am (blk_below (bup BK616.out) hb);have n1_:=am (below_step (lup HB.out) hb);have n2_:=am (hbox);have n3_:=am ((by rw [hg];exact (below_size (lup HB.out)) : w.heap.size ≤ gb617));have n4_:=am ((by rw [hg];exact (below_size (lup HB.out)) : w.heap.size ≤ gb617));have n5_:=am ((by rw [hg];exact Nat.ne_of_lt (blk_lt (bup BK616.out)) : gb616≠gb617));have n6_:=am ((by rw [hg];exact Nat.ne_of_gt (blk_lt (bup BK616.out)) : gb617≠gb616));clear BK616 HB;have BK616:=n0_;have HB:=n1_;have BK617:=n2_;have GW617:=n3_;have GE617:=n4_;have NB616_617:=n5_;have NB617_616:=n6_;clear n0_ n1_ n2_ n3_ n4_ n5_ n6_;clear hb hbox hg;have hnb107:=NB616_617.out;have hnc107:=NB617_616.out;have hcz108_0 : w106.cell? ⟨gb616,0,none⟩ = some (.int .i64 a1_0):=(blk_cell BK616.out 0).trans rfl;have hcz108_1 : w106.cell? ⟨gb616,1,none⟩ = some (.slice A1_1 l1_1.length c1_1):=(blk_cell BK616.out 1).trans rfl;have hfz108_0:=blk_frozen BK616.out 0;have hfz108_1:=blk_frozen BK616.out 1)|((with_reducible refine gate_callee (f:=33) rfl ?_);refine goesL_ (some 19) rfl rfl Tryd.func33 (by kernel_rfl) rfl #[.slice A0 l0.length c0,.agg #[.int .i64 a1_0,.slice A1_1 l1_1.length c1_1],.int .i64 a2] rfl (by (try simp only [List.map_toArray,List.map_cons,List.map_nil]);first|done|rfl|(simp only [List.length_drop,List.length_take];rfl)) ?_;(with_reducible refine (spec_YoungObject.calls k _ _ l0 a1_0 _ _ l1_1 a2 t618 t619 false _ ?side1 ?side2 ?side3 ?side4 A6.out).mono ?_);(case side1 => repeat (first|exact (Kd.C_below HR0.out HB.out)|(with_reducible first|refine Kd.C_alloc ?_ _|refine Kd.C_drewN ?_ _|refine Kd.C_drew ?_)));(case side2 => exact HC0.out);(case side3 => repeat (first|exact (Kd.C_below HR1_1.out HB.out)|(with_reducible first|refine Kd.C_alloc ?_ _|refine Kd.C_drewN ?_ _|refine Kd.C_drew ?_)));(case side4 => exact HC1_1.out);rintro e w109 ⟨v620,rfl,ho0,hb⟩;refine ⟨_,rfl,?_⟩;have n0_:=am (Kd.R_lower ho0 (below_size (lup HB.out)));have n1_:=am (blk_below (bup BK616.out) hb);have n2_:=am (blk_below (bup BK617.out) hb);have n3_:=am (below_step (lup HB.out) hb);clear BK616 BK617 HB;have HO621:=n0_;have BK616:=n1_;have BK617:=n2_;have HB:=n3_;clear n0_ n1_ n2_ n3_;(try clear hb);(try clear hb2);(try clear hk);(try clear hi);(try clear ho0))|((with_reducible refine gate_dst (N:=12) rfl ?_);(try (refine gate_guard (by rfl) ?_;dsimp only));refine box_event ?hg (N:=12) ?hd (cs:=#[.int .i64 0,.slice none 0 0]) (t:=40) ?hr ?_;(case hd => rfl);(case hg => rfl);(case hr => first|(go_simp;done)|(go_simp;rfl));intro gb623 hg w110 hbox hb;have n0_:=am (Kd.R_below (kup HO621.out) hb);have n1_:=am (blk_below (bup BK616.out) hb);have n2_:=am (blk_below (bup BK617.out) hb);have n3_:=am (below_step (lup HB.out) hb);have n4_:=am (hbox);have n5_:=am ((by rw [hg];exact (below_size (lup HB.out)) : w.heap.size ≤ gb623));have n6_:=am ((by rw [hg];exact (below_size (lup HB.out)) : w.heap.size ≤ gb623));have n7_:=am ((by rw [hg];exact Nat.ne_of_lt (blk_lt (bup BK616.out)) : gb616≠gb623));have n8_:=am ((by rw [hg];exact Nat.ne_of_gt (blk_lt (bup BK616.out)) : gb623≠gb616));have n9_:=am ((by rw [hg];exact Nat.ne_of_lt (blk_lt (bup BK617.out)) : gb617≠gb623));have n10_:=am ((by rw [hg];exact Nat.ne_of_gt (blk_lt (bup BK617.out)) : gb623≠gb617));clear HO621 BK616 BK617 HB;have HO621:=n0_;have BK616:=n1_;have BK617:=n2_;have HB:=n3_;have BK623:=n4_;have GW623:=n5_;have GE623:=n6_;have NB616_623:=n7_;have NB623_616:=n8_;have NB617_623:=n9_;have NB623_617:=n10_;clear n0_ n1_ n2_ n3_ n4_ n5_ n6_ n7_ n8_ n9_ n10_;clear hb hbox hg;have hnb111:=NB623_616.out;have hnc111:=NB616_623.out;have hnb112:=NB623_617.out;have hnc112:=NB617_623.out;have hcz113_0 : w110.cell? ⟨gb623,0,none⟩ = some (.int .i64 0):=(blk_cell BK623.out 0).trans rfl;have hcz113_1 : w110.cell? ⟨gb623,1,none⟩ = some (.slice none 0 0):=(blk_cell BK623.out 1).trans rfl;have hfz113_0:=blk_frozen BK623.out 0;have hfz113_1:=blk_frozen BK623.out 1;obtain ⟨Ao114,co114,eo114⟩:=Kd.R_slice HO621.out;subst eo114;have hcz115_0 : w110.cell? ⟨gb617,0,none⟩ = some (.int .i64 0):=(blk_cell BK617.out 0).trans rfl;have hcz115_1 : w110.cell? ⟨gb617,1,none⟩ = some (.slice none 0 0):=(blk_cell BK617.out 1).trans rfl;have hfz115_0:=blk_frozen BK617.out 0;have hfz115_1:=blk_frozen BK617.out 1))
  refine bodyPost_ret (results_ct rfl _ _ gb617 30 #[.int .i64 0,.slice none 0 0] (0,0) _ rfl (by (with_reducible repeat (first|refine blk_drewN ?_ _|refine blk_drew ?_|refine blk_alloc ?_ _));refine blk_put (cs:=#[.int .i64 0,.slice none 0 0]) ?_ 1 _ rfl;(with_reducible repeat (first|refine blk_drewN ?_ _|refine blk_drew ?_|refine blk_alloc ?_ _));refine blk_put (cs:=#[.int .i64 0,.slice none 0 0]) ?_ 0 _ rfl;(with_reducible repeat (first|refine blk_drewN ?_ _|refine blk_drew ?_|refine blk_alloc ?_ _));refine blk_far ?_ NB617_623.out _;(with_reducible repeat (first|refine blk_drewN ?_ _|refine blk_drew ?_|refine blk_alloc ?_ _));refine blk_far ?_ NB617_623.out _;(with_reducible repeat (first|refine blk_drewN ?_ _|refine blk_drew ?_|refine blk_alloc ?_ _));exact BK617.out) Tryd.underlying30 rfl (by kernel_rfl)) rfl ?_
  exact ⟨_,by first|rfl|(simp [errW_none,errW_some] <;> rfl)|(simp [*,errW_none,errW_some] <;> rfl),by first|exact Kd.R_nil _ _ _ _ _|exact Kd.N_nil _ _ _ _ _|exact Kd.V_nil _ _ _ _ _|exact Kd.Q_nil _ _ _ _ _|exact Kd.S_nil _ _ _ _ _,by repeat (first|(with_reducible first|exact HB.out|apply below_alloc|apply pw_below_drewN|apply below_drew1|refine below_set ?_ GE616.out|refine below_set ?_ GE617.out|refine below_set ?_ GE623.out)|exact HB.out)⟩

end Go.Proofs.YtgfeafcgpeclcaaDoor.X
namespace Go.Proofs.YtgfeafcgpeclcaaDoor.X
open Go.RowKit Go.Proofs.YtgfeafcgpeclcaaDoorW.PrintWords Go.Proofs.YtgfeafcgpeclcaaDoorW.PrintLast Go.Proofs.YtgfeafcgpeclcaaDoorW.PrintMore
attribute [local go_sem] max2_int min2_int max_two min_two max_three min_three max_four min_four   -- for this text's walks alone
set_option linter.unusedVariables false
set_option linter.unusedSimpArgs false

/-! ### impl_within: function 69 -/
def impl_within.f (a0 : Int) (a1 : Int) (a2 : Int) : Option (Bool) := if a0 ≥ a1 then (some (decide (a0 ≤ a2))) else (some false)
set_option maxHeartbeats 8000000 in
set_option maxRecDepth 100000 in
theorem impl_within.calls (a0 : Int) (a1 : Int) (a2 : Int) (r : Bool) (w : World) (h : impl_within.f a0 a1 a2 = some r) :
    Calls Tryd.prog 69 #[.int .i64 a0, .int .i64 a1, .int .i64 a2] w fun e w' => e = .returned (.bool r) ∧ Drawn0 w w' := by
  have H : (if a0 ≥ a1 then (some (decide (a0 ≤ a2))) else (some false)) = some r := h
  clear h
  by_cases c4 : a0 ≥ a1
  · rw [if_pos c4] at H
    have c4b0 : decide (a1 ≤ a0) = true := decide_eq_true c4
    clear c4
    obtain rfl := Option.some.inj H
    go_enter Tryd.func69, Tryd.ntmps69
    go_wp2
    go_ret
    exact ⟨by first | rfl | (simp; done) | (simp [*]; done), by repeat (first | exact Drawn0.refl _ | apply Drawn0.step)⟩
  · rw [if_neg c4] at H
    have c4b0 : decide (a1 ≤ a0) = false := decide_eq_false c4
    clear c4
    obtain rfl := Option.some.inj H
    go_enter Tryd.func69, Tryd.ntmps69
    go_wp2
    go_ret
    exact ⟨by first | rfl | (simp; done) | (simp [*]; done), by repeat (first | exact Drawn0.refl _ | apply Drawn0.step)⟩

end Go.Proofs.YtgfeafcgpeclcaaDoor.X
namespace Go.Proofs.YtgfeafcgpeclcaaDoor.X
open Go.RowKit Go.Proofs.YtgfeafcgpeclcaaDoorW.PrintWords Go.Proofs.YtgfeafcgpeclcaaDoorW.PrintLast Go.Proofs.YtgfeafcgpeclcaaDoorW.PrintMore
attribute [local go_sem] max2_int min2_int max_two min_two max_three min_three max_four min_four   -- for this text's walks alone
set_option linter.unusedVariables false
set_option linter.unusedSimpArgs false

/-! ### impl_RefKind: function 53 -/
def impl_RefKind.j0 : Nat → Int → Bool → Option (Int)
 | 0,_,_ => none
 | k + 1,x0,x6 => if x6 = true then (some 1) else ((impl_within.f x0 1 799).bind fun t162 => (if t162 = true then (if (Int.tmod x0 2) = 1 then (some 2) else (some (-1))) else (some (-1))))
def impl_RefKind.f (k : Nat) (a0 : Int) : Option (Int) := if a0 = 0 then (some 0) else ((impl_within.f a0 2 254).bind fun t161 => (if t161 = true then (impl_RefKind.j0 k a0 ((Int.tmod a0 2) == 0)) else (impl_RefKind.j0 k a0 false)))
theorem impl_RefKind.mono_l : ∀ k, (∀ y0 y1, LeO (impl_RefKind.j0 k y0 y1) (impl_RefKind.j0 (k + 1) y0 y1))
 | 0 => fun _ _ r h => by simp [impl_RefKind.j0] at h
 | k + 1 => by
  have ih0:=impl_RefKind.mono_l k
  ·intro y0 y1
   unfold impl_RefKind.j0
   repeat' first
   | (with_reducible exact ih0 _ _)
   | (with_reducible exact LeO.refl _)
   | (with_reducible exact LeO.none _)
   | (with_reducible refine LeO.ite ?_ ?_)
   | (with_reducible refine LeO.bind ?_ (fun _ => ?_))
   | exact ih0 _ _
   | exact LeO.none _
   | refine LeO.ite ?_ ?_
   | refine LeO.bind ?_ (fun _ => ?_)
theorem impl_RefKind.mono : ∀ a0 k, LeO (impl_RefKind.f k a0) (impl_RefKind.f (k + 1) a0) := by
 intro a0 k
 have ih0:=impl_RefKind.mono_l k
 unfold impl_RefKind.f
 repeat' first
   | (with_reducible exact ih0 _ _)
   | (with_reducible exact LeO.refl _)
   | (with_reducible exact LeO.none _)
   | (with_reducible refine LeO.ite ?_ ?_)
   | (with_reducible refine LeO.bind ?_ (fun _ => ?_))
   | exact ih0 _ _
   | exact LeO.none _
   | refine LeO.ite ?_ ?_
   | refine LeO.bind ?_ (fun _ => ?_)
set_option maxHeartbeats 8000000 in
set_option maxRecDepth 100000 in
theorem impl_RefKind.calls (k : Nat) (a0 : Int) (r : Int) (w : World) (h : impl_RefKind.f k a0 = some r) :
  Calls Tryd.prog 53 #[.int .i64 a0] w fun e w' => e = .returned (.int .i64 r)∧Drawn0 w w':=by
 have H : (if a0 = 0 then (some 0) else ((impl_within.f a0 2 254).bind fun t161 => (if t161 = true then (impl_RefKind.j0 k a0 ((Int.tmod a0 2) == 0)) else (impl_RefKind.j0 k a0 false)))) = some r:=h
 clear h
 by_cases c2 : a0 = 0
 ·rw [if_pos c2] at H
  have c2b0 : (a0 == 0) = true:=beq_iff_eq.mpr c2
  have c2b1 : (a0 != 0) = false:=bne_eq_false_iff_eq.mpr c2
  clear c2
  obtain rfl:=Option.some.inj H
  go_enter Tryd.func53,Tryd.ntmps53
  go_wp2
  go_ret
  exact ⟨by first|rfl|(simp;done)|(simp [*];done),by repeat (first|exact Drawn0.refl _|apply Drawn0.step)⟩
 ·rw [if_neg c2] at H
  have c2b0 : (a0 == 0) = false:=beq_eq_false_iff_ne.mpr c2
  have c2b1 : (a0 != 0) = true:=bne_iff_ne.mpr c2
  have HC3:=Aside0.mk H
  clear H
  go_enter Tryd.func53,Tryd.ntmps53
  go_upto_region 3 with (fail)
  go_cut [6] (fun v6 wc => ∃ (kq : Nat) (x6_2 : Bool),v6 = .bool x6_2∧Aside0 (impl_RefKind.j0 kq a0 x6_2 = some r)∧Aside0 (kq ≤ k)∧Drawn0 w wc)
  case first =>
   have H:=HC3.out
   clear HC3
   replace H:=Option.bind_eq_some_iff.mp H
   obtain ⟨t161,A40,H⟩:=H
   try dsimp only at H
   have A4:=Aside0.mk A40
   clear A40
   by_cases c5 : t161 = true
   ·subst c5
    have H1:=H;rw [if_pos rfl] at H1
    clear H
    have H:=H1
    clear H1
    have H':=Aside0.mk H
    clear H
    go_wp2_with (first|((with_reducible refine gate_callee (f:=69) rfl ?_);refine goesL_ (some 8) rfl rfl Tryd.func69 (by kernel_rfl) rfl #[.int .i64 a0,.int .i64 2,.int .i64 254] rfl (by (try simp only [List.map_toArray,List.map_cons,List.map_nil]);first|done|rfl|(simp only [List.length_drop,List.length_take];rfl)) ?_;(with_reducible refine (impl_within.calls a0 2 254 true _ A4.out).mono ?_);rintro e w' ⟨rfl,⟨nd,rfl⟩⟩;refine ⟨_,rfl,?_⟩))
    go_meet
    case rel => exact ⟨_,(((Int.tmod a0 2) == 0)),(by first|rfl|(simp;done)|(simp [*];done)),H',⟨by first|omega|exact Nat.le_refl _⟩,by repeat (first|exact Drawn0.refl _|apply Drawn0.step)⟩
   ·replace c5:=Bool.eq_false_iff.mpr c5
    subst c5
    have H1 : (impl_RefKind.j0 k a0 false) = some r:=by rw [if_neg (show ¬ (false = true) by decide)] at H;exact H
    clear H
    have H:=H1
    clear H1
    have H':=Aside0.mk H
    clear H
    go_wp2_with (first|((with_reducible refine gate_callee (f:=69) rfl ?_);refine goesL_ (some 8) rfl rfl Tryd.func69 (by kernel_rfl) rfl #[.int .i64 a0,.int .i64 2,.int .i64 254] rfl (by (try simp only [List.map_toArray,List.map_cons,List.map_nil]);first|done|rfl|(simp only [List.length_drop,List.length_take];rfl)) ?_;(with_reducible refine (impl_within.calls a0 2 254 false _ A4.out).mono ?_);rintro e w' ⟨rfl,⟨nd,rfl⟩⟩;refine ⟨_,rfl,?_⟩))
    go_meet
    case rel => exact ⟨_,(false),(by first|rfl|(simp;done)|(simp [*];done)),H',⟨by first|omega|exact Nat.le_refl _⟩,by repeat (first|exact Drawn0.refl _|apply Drawn0.step)⟩
  case rest =>
   clear HC3
   try clear c2
   try clear c2b0
   try clear c2b1
   try clear p2
   try clear c5
   obtain ⟨kq,x6_2,rfl,HA,HJ2,⟨mc2,rfl⟩⟩:=hcut
   cases kq with
   | zero => exact absurd HA.out (by simp [impl_RefKind.j0])
   | succ kj2 =>
    have H:=HA.out
    clear HA
    simp only [impl_RefKind.j0] at H
    by_cases c6 : x6_2 = true
    ·subst c6
     have H1:=H;rw [if_pos rfl] at H1
     clear H
     have H:=H1
     clear H1
     obtain rfl:=Option.some.inj H
     go_wp2
     go_ret
     exact ⟨by first|rfl|(simp;done)|(simp [*];done),by repeat (first|exact Drawn0.refl _|apply Drawn0.step)⟩
    ·replace c6:=Bool.eq_false_iff.mpr c6
     subst c6
     have H1 : ((impl_within.f a0 1 799).bind fun t162 => (if t162 = true then (if (Int.tmod a0 2) = 1 then (some 2) else (some (-1))) else (some (-1)))) = some r:=by rw [if_neg (show ¬ (false = true) by decide)] at H;exact H
     clear H
     have H:=H1
     clear H1
     replace H:=Option.bind_eq_some_iff.mp H
     obtain ⟨t162,A70,H⟩:=H
     try dsimp only at H
     have A7:=Aside0.mk A70
     clear A70
     by_cases c8 : t162 = true
     ·subst c8
      have H1:=H;rw [if_pos rfl] at H1
      clear H
      have H:=H1
      clear H1
      by_cases c9 : (Int.tmod a0 2) = 1
      ·rw [if_pos c9] at H
       have c9b0 : ((Int.tmod a0 2) == 1) = true:=beq_iff_eq.mpr c9
       have c9b1 : ((Int.tmod a0 2) != 1) = false:=bne_eq_false_iff_eq.mpr c9
       clear c9
       obtain rfl:=Option.some.inj H
       go_wp2_with (first|((with_reducible refine gate_callee (f:=69) rfl ?_);refine goesL_ (some 16) rfl rfl Tryd.func69 (by kernel_rfl) rfl #[.int .i64 a0,.int .i64 1,.int .i64 799] rfl (by (try simp only [List.map_toArray,List.map_cons,List.map_nil]);first|done|rfl|(simp only [List.length_drop,List.length_take];rfl)) ?_;(with_reducible refine (impl_within.calls a0 1 799 true _ A7.out).mono ?_);rintro e w' ⟨rfl,⟨nd,rfl⟩⟩;refine ⟨_,rfl,?_⟩))
       go_ret
       exact ⟨by first|rfl|(simp;done)|(simp [*];done),by repeat (first|exact Drawn0.refl _|apply Drawn0.step)⟩
      ·rw [if_neg c9] at H
       have c9b0 : ((Int.tmod a0 2) == 1) = false:=beq_eq_false_iff_ne.mpr c9
       have c9b1 : ((Int.tmod a0 2) != 1) = true:=bne_iff_ne.mpr c9
       obtain rfl:=Option.some.inj H
       go_wp2_with (first|((with_reducible refine gate_callee (f:=69) rfl ?_);refine goesL_ (some 16) rfl rfl Tryd.func69 (by kernel_rfl) rfl #[.int .i64 a0,.int .i64 1,.int .i64 799] rfl (by (try simp only [List.map_toArray,List.map_cons,List.map_nil]);first|done|rfl|(simp only [List.length_drop,List.length_take];rfl)) ?_;(with_reducible refine (impl_within.calls a0 1 799 true _ A7.out).mono ?_);rintro e w' ⟨rfl,⟨nd,rfl⟩⟩;refine ⟨_,rfl,?_⟩))
       go_ret
       exact ⟨by first|rfl|(simp;done)|(simp [*];done),by repeat (first|exact Drawn0.refl _|apply Drawn0.step)⟩
     ·replace c8:=Bool.eq_false_iff.mpr c8
      subst c8
      have H1 : (some (-1)) = some r:=by rw [if_neg (show ¬ (false = true) by decide)] at H;exact H
      clear H
      have H:=H1
      clear H1
      obtain rfl:=Option.some.inj H
      go_wp2_with (first|((with_reducible refine gate_callee (f:=69) rfl ?_);refine goesL_ (some 16) rfl rfl Tryd.func69 (by kernel_rfl) rfl #[.int .i64 a0,.int .i64 1,.int .i64 799] rfl (by (try simp only [List.map_toArray,List.map_cons,List.map_nil]);first|done|rfl|(simp only [List.length_drop,List.length_take];rfl)) ?_;(with_reducible refine (impl_within.calls a0 1 799 false _ A7.out).mono ?_);rintro e w' ⟨rfl,⟨nd,rfl⟩⟩;refine ⟨_,rfl,?_⟩))
      go_ret
      exact ⟨by first|rfl|(simp;done)|(simp [*];done),by repeat (first|exact Drawn0.refl _|apply Drawn0.step)⟩

end Go.Proofs.YtgfeafcgpeclcaaDoor.X
namespace Go.Proofs.YtgfeafcgpeclcaaDoor.X
open Go.RowKit Go.Proofs.YtgfeafcgpeclcaaDoorW.PrintWords Go.Proofs.YtgfeafcgpeclcaaDoorW.PrintLast Go.Proofs.YtgfeafcgpeclcaaDoorW.PrintMore
attribute [local go_sem] max2_int min2_int max_two min_two max_three min_three max_four min_four   -- for this text's walks alone
set_option linter.unusedVariables false
set_option linter.unusedSimpArgs false

/-! ### impl_isYoung: function 88 -/
def impl_isYoung.f (k : Nat) (a0 : Int) : Option (Bool) := (impl_RefKind.f k a0).bind fun t163 => (some (t163 == 2))
theorem impl_isYoung.mono : ∀ a0 k, LeO (impl_isYoung.f k a0) (impl_isYoung.f (k + 1) a0) := by
  intro a0 k
  unfold impl_isYoung.f
  repeat' first
      | (with_reducible exact impl_RefKind.mono _ _)
      | (with_reducible exact LeO.refl _)
      | (with_reducible exact LeO.none _)
      | (with_reducible refine LeO.ite ?_ ?_)
      | (with_reducible refine LeO.bind ?_ (fun _ => ?_))
      | exact impl_RefKind.mono _ _
      | exact LeO.none _
      | refine LeO.ite ?_ ?_
      | refine LeO.bind ?_ (fun _ => ?_)
set_option maxHeartbeats 8000000 in
set_option maxRecDepth 100000 in
theorem impl_isYoung.calls (k : Nat) (a0 : Int) (r : Bool) (w : World) (h : impl_isYoung.f k a0 = some r) :
    Calls Tryd.prog 88 #[.int .i64 a0] w fun e w' => e = .returned (.bool r) ∧ Drawn0 w w' := by
  have H : ((impl_RefKind.f k a0).bind fun t163 => (some (t163 == 2))) = some r := h
  clear h
  replace H := Option.bind_eq_some_iff.mp H
  obtain ⟨t163, A20, H⟩ := H
  replace H : (some (t163 == 2)) = some r := H
  have A2 := Aside0.mk A20
  clear A20
  obtain rfl := Option.some.inj H
  go_enter Tryd.func88, Tryd.ntmps88
  go_wp2_with (first | ((with_reducible refine gate_callee (f := 53) rfl ?_); refine goesL_ (some 4) rfl rfl Tryd.func53 (by kernel_rfl) rfl #[.int .i64 a0] rfl (by (try simp only [List.map_toArray, List.map_cons, List.map_nil]); first | done | rfl | (simp only [List.length_drop, List.length_take]; rfl)) ?_; (with_reducible refine (impl_RefKind.calls k a0 t163 _ A2.out).mono ?_); rintro e w' ⟨rfl, ⟨nd, rfl⟩⟩; refine ⟨_, rfl, ?_⟩))
  go_ret
  exact ⟨by first | rfl | (simp; done) | (simp [*]; done), by repeat (first | exact Drawn0.refl _ | apply Drawn0.step)⟩

end Go.Proofs.YtgfeafcgpeclcaaDoor.X
namespace Go.Proofs.YtgfeafcgpeclcaaDoor.X
open Go.RowKit Go.Proofs.YtgfeafcgpeclcaaDoorW.PrintWords Go.Proofs.YtgfeafcgpeclcaaDoorW.PrintLast Go.Proofs.YtgfeafcgpeclcaaDoorW.PrintMore
attribute [local go_sem] max2_int min2_int max_two min_two max_three min_three max_four min_four   -- for this text's walks alone
set_option linter.unusedVariables false
set_option linter.unusedSimpArgs false

/-! ### cmp_isNaN_int64: function 117 -/
def cmp_isNaN_int64.f (a0 : Int) : Option (Bool) := some (a0 != a0)
set_option maxHeartbeats 8000000 in
set_option maxRecDepth 100000 in
theorem cmp_isNaN_int64.calls (a0 : Int) (r : Bool) (w : World) (h : cmp_isNaN_int64.f a0 = some r) :
    Calls Tryd.prog 117 #[.int .i64 a0] w fun e w' => e = .returned (.bool r) ∧ Drawn0 w w' := by
  have H : (some (a0 != a0)) = some r := h
  clear h
  obtain rfl := Option.some.inj H
  go_enter Tryd.func117, Tryd.ntmps117
  go_wp2
  go_ret
  exact ⟨by first | rfl | (simp; done) | (simp [*]; done), by repeat (first | exact Drawn0.refl _ | apply Drawn0.step)⟩

end Go.Proofs.YtgfeafcgpeclcaaDoor.X
namespace Go.Proofs.YtgfeafcgpeclcaaDoor.X
open Go.RowKit Go.Proofs.YtgfeafcgpeclcaaDoorW.PrintWords Go.Proofs.YtgfeafcgpeclcaaDoorW.PrintLast Go.Proofs.YtgfeafcgpeclcaaDoorW.PrintMore
attribute [local go_sem] max2_int min2_int max_two min_two max_three min_three max_four min_four   -- for this text's walks alone
set_option linter.unusedVariables false
set_option linter.unusedSimpArgs false

/-! ### cmp_Less_int64: function 112 -/
def cmp_Less_int64.f (a0 : Int) (a1 : Int) : Option (Bool) := (cmp_isNaN_int64.f a0).bind fun t164 => (if t164 = true then ((cmp_isNaN_int64.f a1).bind fun t165 => (if t165 = true then (some (decide (a0 < a1))) else (some true))) else (some (decide (a0 < a1))))
set_option maxHeartbeats 8000000 in
set_option maxRecDepth 100000 in
theorem cmp_Less_int64.calls (a0 : Int) (a1 : Int) (r : Bool) (w : World) (h : cmp_Less_int64.f a0 a1 = some r) :
    Calls Tryd.prog 112 #[.int .i64 a0, .int .i64 a1] w fun e w' => e = .returned (.bool r) ∧ Drawn0 w w' := by
  have H : ((cmp_isNaN_int64.f a0).bind fun t164 => (if t164 = true then ((cmp_isNaN_int64.f a1).bind fun t165 => (if t165 = true then (some (decide (a0 < a1))) else (some true))) else (some (decide (a0 < a1))))) = some r := h
  clear h
  replace H := Option.bind_eq_some_iff.mp H
  obtain ⟨t164, A30, H⟩ := H
  replace H : (if t164 = true then ((cmp_isNaN_int64.f a1).bind fun t165 => (if t165 = true then (some (decide (a0 < a1))) else (some true))) else (some (decide (a0 < a1)))) = some r := H
  have A3 := Aside0.mk A30
  clear A30
  by_cases c4 : t164 = true
  · subst c4
    have H1 : ((cmp_isNaN_int64.f a1).bind fun t165 => (if t165 = true then (some (decide (a0 < a1))) else (some true))) = some r := by rw [if_pos rfl] at H; exact H
    clear H
    have H := H1
    clear H1
    replace H := Option.bind_eq_some_iff.mp H
    obtain ⟨t165, A50, H⟩ := H
    replace H : (if t165 = true then (some (decide (a0 < a1))) else (some true)) = some r := H
    have A5 := Aside0.mk A50
    clear A50
    by_cases c6 : t165 = true
    · subst c6
      have H1 : (some (decide (a0 < a1))) = some r := by rw [if_pos rfl] at H; exact H
      clear H
      have H := H1
      clear H1
      obtain rfl := Option.some.inj H
      go_enter Tryd.func112, Tryd.ntmps112
      go_wp2_with (first | ((with_reducible refine gate_callee (f := 117) rfl ?_); refine goesL_ (some 6) rfl rfl Tryd.func117 (by kernel_rfl) rfl #[.int .i64 a0] rfl (by (try simp only [List.map_toArray, List.map_cons, List.map_nil]); first | done | rfl | (simp only [List.length_drop, List.length_take]; rfl)) ?_; (with_reducible refine (cmp_isNaN_int64.calls a0 true _ A3.out).mono ?_); rintro e w' ⟨rfl, ⟨nd, rfl⟩⟩; refine ⟨_, rfl, ?_⟩) | (go_at_call 117; (with_reducible refine (cmp_isNaN_int64.calls a1 true _ A5.out).mono ?_); rintro e w' ⟨rfl, ⟨nd, rfl⟩⟩))
      go_ret
      exact ⟨by first | rfl | (simp; done) | (simp [*]; done), by repeat (first | exact Drawn0.refl _ | apply Drawn0.step)⟩
    · replace c6 := Bool.eq_false_iff.mpr c6
      subst c6
      have H1 : (some true) = some r := by rw [if_neg (show ¬ (false = true) by decide)] at H; exact H
      clear H
      have H := H1
      clear H1
      obtain rfl := Option.some.inj H
      go_enter Tryd.func112, Tryd.ntmps112
      go_wp2_with (first | ((with_reducible refine gate_callee (f := 117) rfl ?_); refine goesL_ (some 6) rfl rfl Tryd.func117 (by kernel_rfl) rfl #[.int .i64 a0] rfl (by (try simp only [List.map_toArray, List.map_cons, List.map_nil]); first | done | rfl | (simp only [List.length_drop, List.length_take]; rfl)) ?_; (with_reducible refine (cmp_isNaN_int64.calls a0 true _ A3.out).mono ?_); rintro e w' ⟨rfl, ⟨nd, rfl⟩⟩; refine ⟨_, rfl, ?_⟩) | (go_at_call 117; (with_reducible refine (cmp_isNaN_int64.calls a1 false _ A5.out).mono ?_); rintro e w' ⟨rfl, ⟨nd, rfl⟩⟩))
      go_ret
      exact ⟨by first | rfl | (simp; done) | (simp [*]; done), by repeat (first | exact Drawn0.refl _ | apply Drawn0.step)⟩
  · replace c4 := Bool.eq_false_iff.mpr c4
    subst c4
    have H1 : (some (decide (a0 < a1))) = some r := by rw [if_neg (show ¬ (false = true) by decide)] at H; exact H
    clear H
    have H := H1
    clear H1
    obtain rfl := Option.some.inj H
    go_enter Tryd.func112, Tryd.ntmps112
    go_wp2_with (first | ((with_reducible refine gate_callee (f := 117) rfl ?_); refine goesL_ (some 6) rfl rfl Tryd.func117 (by kernel_rfl) rfl #[.int .i64 a0] rfl (by (try simp only [List.map_toArray, List.map_cons, List.map_nil]); first | done | rfl | (simp only [List.length_drop, List.length_take]; rfl)) ?_; (with_reducible refine (cmp_isNaN_int64.calls a0 false _ A3.out).mono ?_); rintro e w' ⟨rfl, ⟨nd, rfl⟩⟩; refine ⟨_, rfl, ?_⟩))
    go_ret
    exact ⟨by first | rfl | (simp; done) | (simp [*]; done), by repeat (first | exact Drawn0.refl _ | apply Drawn0.step)⟩

end Go.Proofs.YtgfeafcgpeclcaaDoor.X
namespace Go.Proofs.YtgfeafcgpeclcaaDoor.X
open Go.RowKit Go.Proofs.YtgfeafcgpeclcaaDoorW.PrintWords Go.Proofs.YtgfeafcgpeclcaaDoorW.PrintLast Go.Proofs.YtgfeafcgpeclcaaDoorW.PrintMore
attribute [local go_sem] max2_int min2_int max_two min_two max_three min_three max_four min_four   -- for this text's walks alone
set_option linter.unusedVariables false
set_option linter.unusedSimpArgs false

/-! ### slices_isNaN_int64: function 113 -/
def slices_isNaN_int64.f (a0 : Int) : Option (Bool) := some (a0 != a0)
set_option maxHeartbeats 8000000 in
set_option maxRecDepth 100000 in
theorem slices_isNaN_int64.calls (a0 : Int) (r : Bool) (w : World) (h : slices_isNaN_int64.f a0 = some r) :
    Calls Tryd.prog 113 #[.int .i64 a0] w fun e w' => e = .returned (.bool r) ∧ Drawn0 w w' := by
  have H : (some (a0 != a0)) = some r := h
  clear h
  obtain rfl := Option.some.inj H
  go_enter Tryd.func113, Tryd.ntmps113
  go_wp2
  go_ret
  exact ⟨by first | rfl | (simp; done) | (simp [*]; done), by repeat (first | exact Drawn0.refl _ | apply Drawn0.step)⟩

end Go.Proofs.YtgfeafcgpeclcaaDoor.X
