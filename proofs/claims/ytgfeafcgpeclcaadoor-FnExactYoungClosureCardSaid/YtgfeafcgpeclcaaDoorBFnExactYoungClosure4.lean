/- Lean functions, walks and rows for the seat YtgfeafcgpeclcaaDoor, written by a program of this repo (wip/tools/xprint.py). (Merged out of this claim's own texts.) -/
import Derived.Test.YtgfeafcgpeclcaaDoorBFnExactYoungClosure3
import Derived.Test.YtgfeafcgpeclcaaDoorProg
import Derived.Shelf.Strings.Trim
import Derived.Shelf.Small.Utf8
import Derived.Shelf.Small.Strs
import Derived.Shelf.Strings.Search1
import Derived.Shelf.Strings.Runes
import Derived.Shelf.Strings.AsciiSet
import Derived.Shelf.Unicode.DecodeSlow
import Derived.Ground.SlgnProg
import Derived.Shelf.SlicesG.SearchI
import Derived.Shelf.SlicesE.Clone
import Derived.Ground.SlgfProg
import Derived.Shelf.SlicesE.IndexFunc
import Derived.Shelf.Strings.SlTrimAscii
import Derived.Lib.Hide
import Derived.Deep.RegionHeld3
import Derived.Deep.LoopGhost
import Derived.Maps.OwnOps
namespace Go.Proofs.YtgfeafcgpeclcaaDoor.X
open Go.RowKit Go.Proofs.YtgfeafcgpeclcaaDoorW.PrintWords Go.Proofs.YtgfeafcgpeclcaaDoorW.PrintLast Go.Proofs.YtgfeafcgpeclcaaDoorW.PrintMore
attribute [local go_sem] max2_int min2_int max_two min_two max_three min_three max_four min_four   -- for this text's walks alone
set_option linter.unusedVariables false
set_option linter.unusedSimpArgs false

/-! ### impl_youngObject: function 66 -/
def impl_youngObject.f (l0 : List ByteArray) (a1_0 : Int) (l1_1 : List Int) (a2 : Int) : Option (Int × List Int) := if 0 ≤ a2 then (if a2 < (l1_1.length : Int) then (if 0 ≤ (wrap64 (Int.tdiv (rd l1_1 a2) 4)) then (if (wrap64 (Int.tdiv (rd l1_1 a2) 4)) < (l0.length : Int) then (if 0 ≤ (wrap64 (a2 + 1)) then (if (wrap64 (a2 + 1)) ≤ (wrap64 ((wrap64 (a2 + 1)) + ((rdOf ByteArray.empty l0 (wrap64 (Int.tdiv (rd l1_1 a2) 4))).size : Int))) then (if (wrap64 ((wrap64 (a2 + 1)) + ((rdOf ByteArray.empty l0 (wrap64 (Int.tdiv (rd l1_1 a2) 4))).size : Int))) ≤ (l1_1.length : Int) then ((slices_Clone_int64_int64.f ((l1_1.take ((wrap64 ((wrap64 (a2 + 1)) + ((rdOf ByteArray.empty l0 (wrap64 (Int.tdiv (rd l1_1 a2) 4))).size : Int))) : Int).toNat).drop ((wrap64 (a2 + 1)) : Int).toNat)).bind fun t158 => (some (wrap64 (Int.tdiv (rd l1_1 a2) 4), t158))) else (none)) else (none)) else (none)) else (none)) else (none)) else (none)) else (none)
def impl_youngObject.T2 : Bool × List (List Nat × List Nat) := (true, [([], []), ([], []), ([1], [1]), ([], []), ([3], [3]), ([], []), ([5], [5]), ([], []), ([], []), ([7, 8], [7, 8]), ([9], [9]), ([10], [10]), ([6, 11], [6, 11]), ([2, 4, 12], [2, 4, 12]), ([13], [13]), ([0, 14], [0, 14]), ([15, 14, 0, 1, 2, 3, 4, 5, 6, 7, 8, 9, 10, 11, 12, 13, 14, 15], [15])])
def impl_youngObject.B2 : List Nat := [0, 0, 2, 0, 8, 0, 32, 0, 0, 384, 896, 1920, 4064, 8190, 16382, 32767, 65535]
theorem impl_youngObject.tab2 : rtab .any (opsOf Tryd.f66 2) = impl_youngObject.T2 := by kernel_rfl
theorem impl_youngObject.bits2 : waitsOk impl_youngObject.T2.2 impl_youngObject.B2 = true := by kernel_rfl
set_option maxHeartbeats 8000000 in
set_option maxRecDepth 100000 in
theorem impl_youngObject.calls (A0 : Option Addr) (c0 : Nat) (l0 : List ByteArray) (a1_0 : Int) (A1_1 : Option Addr) (c1_1 : Nat) (l1_1 : List Int) (a2 : Int) (r1 : Int) (r2 : List Int) (w : World) (hr0 : Kd.C Kd.string w A0 l0.length l0) (hc0 : l0.length ≤ c0) (hr1_1 : Kd.C (Kd.int .i64) w A1_1 l1_1.length l1_1) (hc1_1 : l1_1.length ≤ c1_1) (h : impl_youngObject.f l0 a1_0 l1_1 a2 = some (r1, r2)) :
  Calls Tryd.prog 66 #[.slice A0 l0.length c0,.agg #[.int .i64 a1_0,.slice A1_1 l1_1.length c1_1],.int .i64 a2] w fun e w' => ∃ v1_ : Value,e = .returned (.agg #[.int .i64 r1,v1_])∧Kd.R (Kd.int .i64) 2 w' w.heap.size (fun _ => True) v1_ r2∧Below w.heap.size w w':=by
 have hu30:=Tryd.underlying30
 have hu40:=Tryd.underlying40
 have HR0:=Aside0.mk hr0
 have HC0:=Aside0.mk hc0
 clear hr0 hc0
 have HR1_1:=Aside0.mk hr1_1
 have HC1_1:=Aside0.mk hc1_1
 clear hr1_1 hc1_1
 have HB:=Aside0.mk (Below.refl w.heap.size w)
 have H : (if 0 ≤ a2 then (if a2 < (l1_1.length : Int) then (if 0 ≤ (wrap64 (Int.tdiv (rd l1_1 a2) 4)) then (if (wrap64 (Int.tdiv (rd l1_1 a2) 4)) < (l0.length : Int) then (if 0 ≤ (wrap64 (a2 + 1)) then (if (wrap64 (a2 + 1)) ≤ (wrap64 ((wrap64 (a2 + 1)) + ((rdOf ByteArray.empty l0 (wrap64 (Int.tdiv (rd l1_1 a2) 4))).size : Int))) then (if (wrap64 ((wrap64 (a2 + 1)) + ((rdOf ByteArray.empty l0 (wrap64 (Int.tdiv (rd l1_1 a2) 4))).size : Int))) ≤ (l1_1.length : Int) then ((slices_Clone_int64_int64.f ((l1_1.take ((wrap64 ((wrap64 (a2 + 1)) + ((rdOf ByteArray.empty l0 (wrap64 (Int.tdiv (rd l1_1 a2) 4))).size : Int))) : Int).toNat).drop ((wrap64 (a2 + 1)) : Int).toNat)).bind fun t158 => (some (wrap64 (Int.tdiv (rd l1_1 a2) 4),t158))) else (none)) else (none)) else (none)) else (none)) else (none)) else (none)) else (none)) = some (r1,r2):=h
 clear h
 by_cases c4 : 0 ≤ a2
 ·rw [if_pos c4] at H
  have c4b0 : decide (0 ≤ a2) = true:=decide_eq_true c4
  clear c4
  by_cases c5 : a2 < (l1_1.length : Int)
  ·rw [if_pos c5] at H
   have c5b0 : decide (a2 < (l1_1.length : Int)) = true:=decide_eq_true c5
   clear c5
   obtain ⟨ji6,hji6⟩ : ∃ j_ : Int,(wrap64 (Int.tdiv (rd l1_1 a2) 4)) = j_:=⟨_,rfl⟩
   replace H : (if 0 ≤ (ji6) then (if (ji6) < (l0.length : Int) then (if 0 ≤ (wrap64 (a2 + 1)) then (if (wrap64 (a2 + 1)) ≤ (wrap64 ((wrap64 (a2 + 1)) + ((rdOf ByteArray.empty l0 (ji6)).size : Int))) then (if (wrap64 ((wrap64 (a2 + 1)) + ((rdOf ByteArray.empty l0 (ji6)).size : Int))) ≤ (l1_1.length : Int) then ((slices_Clone_int64_int64.f ((l1_1.take ((wrap64 ((wrap64 (a2 + 1)) + ((rdOf ByteArray.empty l0 (ji6)).size : Int))) : Int).toNat).drop ((wrap64 (a2 + 1)) : Int).toNat)).bind fun t158 => (some (ji6,t158))) else (none)) else (none)) else (none)) else (none)) else (none)) = some (r1,r2):=by first|(rw [hji6] at H;exact H)|(simp only [hji6] at H ⊢;exact H)
   have hji6w : (IntKind.i64.wrap (Int.tdiv (rd l1_1 a2) 4)) = ji6:=(i64_w _).trans hji6
   by_cases c7 : 0 ≤ (ji6)
   ·rw [if_pos c7] at H
    have c7b0 : decide (0 ≤ (ji6)) = true:=decide_eq_true c7
    clear c7
    by_cases c8 : (ji6) < (l0.length : Int)
    ·rw [if_pos c8] at H
     have c8b0 : decide ((ji6) < (l0.length : Int)) = true:=decide_eq_true c8
     clear c8
     obtain ⟨ji9,hji9⟩ : ∃ j_ : Int,(wrap64 (a2 + 1)) = j_:=⟨_,rfl⟩
     replace H : (if 0 ≤ (ji9) then (if (ji9) ≤ (wrap64 ((ji9) + ((rdOf ByteArray.empty l0 (ji6)).size : Int))) then (if (wrap64 ((ji9) + ((rdOf ByteArray.empty l0 (ji6)).size : Int))) ≤ (l1_1.length : Int) then ((slices_Clone_int64_int64.f ((l1_1.take ((wrap64 ((ji9) + ((rdOf ByteArray.empty l0 (ji6)).size : Int))) : Int).toNat).drop ((ji9) : Int).toNat)).bind fun t158 => (some (ji6,t158))) else (none)) else (none)) else (none)) = some (r1,r2):=by first|(rw [hji9] at H;exact H)|(simp only [hji9] at H ⊢;exact H)
     have hji9w : (IntKind.i64.wrap (a2 + 1)) = ji9:=(i64_w _).trans hji9
     by_cases c10 : 0 ≤ (ji9)
     ·rw [if_pos c10] at H
      have c10b0:=eq_true c10
      have c10b1 : decide (0 ≤ (ji9)) = true:=decide_eq_true c10
      clear c10
      by_cases c11 : (ji9) ≤ (wrap64 ((ji9) + ((rdOf ByteArray.empty l0 (ji6)).size : Int)))
      ·rw [if_pos c11] at H
       have c11b0:=eq_true c11
       have c11b1 : decide ((ji9) ≤ (wrap64 ((ji9) + ((rdOf ByteArray.empty l0 (ji6)).size : Int)))) = true:=decide_eq_true c11
       by_cases c12 : (wrap64 ((ji9) + ((rdOf ByteArray.empty l0 (ji6)).size : Int))) ≤ (l1_1.length : Int)
       ·rw [if_pos c12] at H
        have c12b0:=eq_true c12
        have c12b1 : decide ((wrap64 ((ji9) + ((rdOf ByteArray.empty l0 (ji6)).size : Int))) ≤ (l1_1.length : Int)) = true:=decide_eq_true c12
        replace H:=Option.bind_eq_some_iff.mp H
        obtain ⟨t158,A130,H⟩:=H
        try dsimp only at H
        have A13:=Aside0.mk A130
        clear A130
        simp only [Option.some.injEq,Prod.mk.injEq] at H
        obtain ⟨rfl,rfl⟩:=H
        go_enter Tryd.func66,Tryd.ntmps66
        try go_wp2_with (first|((with_reducible refine gate_dst (N:=4) rfl ?_);refine box_event ?hg (N:=4) ?hd (cs:=#[.int .i64 a1_0,.slice A1_1 l1_1.length c1_1]) (t:=30) ?hr ?_;(case hd => rfl);(case hg => rfl);(case hr => first|(go_simp;done)|(go_simp;rfl));intro gb153 hg w14 hbox hb;have n0_:=Aside0.mk (below_step (by repeat (first|(with_reducible first|exact HB.out|apply below_alloc|apply pw_below_drewN|apply below_drew1)|exact HB.out)) hb);have n1_:=Aside0.mk (hbox);have n2_:=Aside0.mk ((by rw [hg];exact (below_size (by repeat (first|(with_reducible first|exact HB.out|apply below_alloc|apply pw_below_drewN|apply below_drew1)|exact HB.out))) : w.heap.size ≤ gb153));have n3_:=Aside0.mk ((by rw [hg];exact (below_size (by repeat (first|(with_reducible first|exact HB.out|apply below_alloc|apply pw_below_drewN|apply below_drew1)|exact HB.out))) : w.heap.size ≤ gb153));clear HB;have HB:=n0_;have BK153:=n1_;have GW153:=n2_;have GE153:=n3_;clear n0_ n1_ n2_ n3_;clear hb hbox hg)|((with_reducible refine gate_dst (N:=6) rfl ?_);refine box_event ?hg (N:=6) ?hd (cs:=#[.int .i64 0,.slice none 0 0]) (t:=40) ?hr ?_;(case hd => rfl);(case hg => rfl);(case hr => first|(go_simp;done)|(go_simp;rfl));intro gb154 hg w15 hbox hb;have n0_:=Aside0.mk (blk_below (g:=gb153) (o:=.cells #[.int .i64 a1_0,.slice A1_1 l1_1.length c1_1] 30 (0,0)) (by (with_reducible repeat (first|refine blk_drewN ?_ _|refine blk_drew ?_|refine blk_alloc ?_ _));exact BK153.out) hb);have n1_:=Aside0.mk (below_step (by repeat (first|(with_reducible first|exact HB.out|apply below_alloc|apply pw_below_drewN|apply below_drew1|refine below_set ?_ GE153.out)|exact HB.out)) hb);have n2_:=Aside0.mk (hbox);have n3_:=Aside0.mk ((by rw [hg];exact (below_size (by repeat (first|(with_reducible first|exact HB.out|apply below_alloc|apply pw_below_drewN|apply below_drew1|refine below_set ?_ GE153.out)|exact HB.out))) : w.heap.size ≤ gb154));have n4_:=Aside0.mk ((by rw [hg];exact (below_size (by repeat (first|(with_reducible first|exact HB.out|apply below_alloc|apply pw_below_drewN|apply below_drew1|refine below_set ?_ GE153.out)|exact HB.out))) : w.heap.size ≤ gb154));have n5_:=Aside0.mk ((by rw [hg];exact Nat.ne_of_lt (blk_lt (g:=gb153) (o:=.cells #[.int .i64 a1_0,.slice A1_1 l1_1.length c1_1] 30 (0,0)) (by (with_reducible repeat (first|refine blk_drewN ?_ _|refine blk_drew ?_|refine blk_alloc ?_ _));exact BK153.out)) : gb153≠gb154));have n6_:=Aside0.mk ((by rw [hg];exact Nat.ne_of_gt (blk_lt (g:=gb153) (o:=.cells #[.int .i64 a1_0,.slice A1_1 l1_1.length c1_1] 30 (0,0)) (by (with_reducible repeat (first|refine blk_drewN ?_ _|refine blk_drew ?_|refine blk_alloc ?_ _));exact BK153.out)) : gb154≠gb153));clear BK153 HB;have BK153:=n0_;have HB:=n1_;have BK154:=n2_;have GW154:=n3_;have GE154:=n4_;have NB153_154:=n5_;have NB154_153:=n6_;clear n0_ n1_ n2_ n3_ n4_ n5_ n6_;clear hb hbox hg;have hnb16:=NB153_154.out;have hnc16:=NB154_153.out;have hcz17_0 : w15.cell? ⟨gb153,0,none⟩ = some (.int .i64 a1_0):=(blk_cell BK153.out 0).trans rfl;have hcz17_1 : w15.cell? ⟨gb153,1,none⟩ = some (.slice A1_1 l1_1.length c1_1):=(blk_cell BK153.out 1).trans rfl;have hfz17_0:=blk_frozen BK153.out 0;have hfz17_1:=blk_frozen BK153.out 1;have p155 : 0 ≤ (a2 : Int):=of_decide_eq_true (by first|(with_reducible assumption)|assumption);have q155 : a2 < (l1_1.length : Int):=of_decide_eq_true (by first|(with_reducible assumption)|assumption);obtain ⟨ad155,e155,hx155_0⟩:=Kd.at_int HR1_1.out a2 p155 q155;cases e155;replace hx155_0:=(HB.out.cell (World.block_lt_of_cell? w _ hx155_0)).trans hx155_0;replace p155:=eq_true p155;replace q155:=eq_true q155))
        have n0_:=Aside0.mk (blk_drew BK153.out)
        have n1_:=Aside0.mk (blk_drew BK154.out)
        have n2_:=Aside0.mk (below_drew1 HB.out)
        clear BK153
        clear BK154
        clear HB
        have BK153:=n0_
        have BK154:=n1_
        have HB:=n2_
        clear n0_ n1_ n2_
        have p156 : 0 ≤ ((ji6) : Int):=of_decide_eq_true (by first|(with_reducible assumption)|assumption)
        have q156 : (ji6) < (l0.length : Int):=of_decide_eq_true (by first|(with_reducible assumption)|assumption)
        obtain ⟨ad156,e156,hx156_0⟩:=Kd.at_string HR0.out (ji6) p156 q156
        have hw156_0:=hx156_0
        cases e156
        replace hx156_0:=(HB.out.cell (World.block_lt_of_cell? w _ hx156_0)).trans hx156_0
        replace p156:=eq_true p156
        replace q156:=eq_true q156
        obtain ⟨i019,hi019,_,hsz19,_⟩:=info_parts info2
        obtain ⟨A19,hcut19,hA19,hC19⟩:=print_mid_of (P:=Tryd.prog) (Value.int .i64) 0 23 2 .i64 .i64 Tryd.underlying23 hi019 hsz19 (some ad155) c1_1 l1_1 (ji9) (wrap64 ((ji9) + ((rdOf ByteArray.empty l0 (ji6)).size : Int))) (of_decide_eq_true (by first|(with_reducible assumption)|assumption)) (by first|omega|exact of_decide_eq_true (by first|(with_reducible assumption)|assumption)) (of_decide_eq_true (by first|(with_reducible assumption)|assumption)) HC1_1.out
        have HR157:=Aside0.mk (Kd.C_of_reads (h1:=fun _ => rfl) (hA19 _ (Kd.reads_of_C HR1_1.out)))
        have HC157:=Aside0.mk hC19
        clear hA19 hC19 hi019 hsz19
        refine start_ (n:=17) (S:=fun w' => w'.cell? ⟨gb153,0,none⟩ = some (.int .i64 a1_0)∧w'.cell? ⟨gb153,1,none⟩ = some (.slice (some ad155) l1_1.length c1_1)∧w'.cell? (ad156.add ((ji6)).toNat) = some (.string (rdOf ByteArray.empty l0 (ji6)))) (ds:=[]) #[false,false,false,false,false,false,false,false,false,false,false,false,false,false,false,false,false] (by kernel_rfl) rfl rfl ⟨(blk_cell BK153.out 0).trans rfl,(blk_cell BK153.out 1).trans rfl,((HB.out.cell (World.block_lt_of_cell? w _ hw156_0)).trans hw156_0)⟩ (fun hHeld => ?_);refine with_tabW impl_youngObject.tab2 impl_youngObject.bits2 (fun HT_ HW_ => ?_)
        generalize w15.drew = w18 at BK153 BK154 HB HR157 hx156_0 hHeld ⊢
        refine pure_ (i:=0) (N:=some 14) (v:=?_) (a':=?_) #[true,false,false,false,false,false,false,false,false,false,false,false,false,false,false,false,false] rfl rfl (any_of HT_.out (by kernel_rfl)) (fun _ _ _ h => h) (Or.inl ⟨by rfl,?_⟩) ?_ ?_
        rotate_left
        ·intro w'
         go_simp
         with_reducible rfl
        rotate_left
        ·simp only [Act.put,List.setIfInBounds_toArray,List.set_cons_zero,List.set_cons_succ,i64_w,i32_w]
         rfl
        refine pure_ (i:=1) (N:=some 15) (v:=?_) (a':=?_) #[true,true,false,false,false,false,false,false,false,false,false,false,false,false,false,false,false] rfl rfl (any_of HT_.out (by kernel_rfl)) (fun _ _ _ h => h) (Or.inl ⟨by rfl,?_⟩) ?_ ?_
        rotate_left
        ·intro w'
         go_simp
         with_reducible rfl
        rotate_left
        ·simp only [Act.put,List.setIfInBounds_toArray,List.set_cons_zero,List.set_cons_succ,i64_w,i32_w]
         rfl
        refine pure_ (i:=3) (N:=some 17) (v:=?_) (a':=?_) #[true,true,false,true,false,false,false,false,false,false,false,false,false,false,false,false,false] rfl rfl (any_of HT_.out (by kernel_rfl)) (fun _ _ _ h => h) (Or.inl ⟨by rfl,?_⟩) ?_ ?_
        rotate_left
        ·intro w'
         go_simp
         with_reducible rfl
        rotate_left
        ·simp only [Act.put,List.setIfInBounds_toArray,List.set_cons_zero,List.set_cons_succ,i64_w,i32_w]
         rfl
        refine pure_ (i:=4) (N:=some 18) (v:=?_) (a':=?_) #[true,true,false,true,true,false,false,false,false,false,false,false,false,false,false,false,false] rfl rfl (any_of HT_.out (by kernel_rfl)) (fun _ _ _ h => h) (Or.inl ⟨by rfl,?_⟩) ?_ ?_
        rotate_left
        ·intro w'
         go_simp
         with_reducible rfl
        rotate_left
        ·simp only [Act.put,List.setIfInBounds_toArray,List.set_cons_zero,List.set_cons_succ,i64_w,i32_w]
         rfl
        refine pure_ (i:=5) (N:=some 19) (v:=?_) (a':=?_) #[true,true,false,true,true,true,false,false,false,false,false,false,false,false,false,false,false] rfl rfl (any_of HT_.out (by kernel_rfl)) (fun _ _ _ h => h) (Or.inl ⟨by rfl,?_⟩) ?_ ?_
        rotate_left
        ·intro w'
         go_simp
         with_reducible rfl
        rotate_left
        ·simp only [Act.put,List.setIfInBounds_toArray,List.set_cons_zero,List.set_cons_succ,i64_w,i32_w]
         rfl
        refine pure_ (i:=6) (N:=some 20) (v:=?_) (a':=?_) #[true,true,false,true,true,true,true,false,false,false,false,false,false,false,false,false,false] rfl rfl (any_of HT_.out (by kernel_rfl)) (fun _ _ _ h => h) (Or.inl ⟨by rfl,?_⟩) ?_ ?_
        rotate_left
        ·intro w'
         go_simp
         with_reducible rfl
        rotate_left
        ·simp only [Act.put,List.setIfInBounds_toArray,List.set_cons_zero,List.set_cons_succ,i64_w,i32_w]
         rfl
        refine pure_ (i:=7) (N:=some 21) (v:=?_) (a':=?_) #[true,true,false,true,true,true,true,true,false,false,false,false,false,false,false,false,false] rfl rfl (any_of HT_.out (by kernel_rfl)) (fun _ _ _ h => h) (Or.inl ⟨by rfl,?_⟩) ?_ ?_
        rotate_left
        ·intro w'
         go_simp
         with_reducible rfl
        rotate_left
        ·simp only [Act.put,List.setIfInBounds_toArray,List.set_cons_zero,List.set_cons_succ,i64_w,i32_w]
         rfl
        refine pure_ (i:=8) (N:=some 22) (v:=?_) (a':=?_) #[true,true,false,true,true,true,true,true,true,false,false,false,false,false,false,false,false] rfl rfl (any_of HT_.out (by kernel_rfl)) (fun _ _ _ h => h) (Or.inl ⟨by rfl,?_⟩) ?_ ?_
        rotate_left
        ·intro w'
         go_simp
         with_reducible rfl
        rotate_left
        ·simp only [Act.put,List.setIfInBounds_toArray,List.set_cons_zero,List.set_cons_succ,i64_w,i32_w]
         rfl
        refine pure_ (i:=9) (N:=some 23) (v:=?_) (a':=?_) #[true,true,false,true,true,true,true,true,true,true,false,false,false,false,false,false,false] rfl rfl (any_of HT_.out (by kernel_rfl)) (fun _ _ _ h => h) (Or.inl ⟨by rfl,?_⟩) ?_ ?_
        rotate_left
        ·intro w'
         go_simp
         with_reducible rfl
        rotate_left
        ·simp only [Act.put,List.setIfInBounds_toArray,List.set_cons_zero,List.set_cons_succ,i64_w,i32_w]
         rfl
        refine take_ (i:=2) (N:=some 16) (v:=?_) (a':=?_) #[true,true,true,true,true,true,true,true,true,true,false,false,false,false,false,false,false] rfl rfl (take_ofW HT_.out HW_.out (by kernel_rfl)) (fun _ _ _ h => h) (Or.inl ⟨by rfl,?_⟩) hHeld ?_ ?_
        rotate_left
        ·rintro w' ⟨s0,s1,s2⟩
         go_simp
         with_reducible rfl
        rotate_left
        ·simp only [Act.put,List.setIfInBounds_toArray,List.set_cons_zero,List.set_cons_succ,i64_w,i32_w]
         rfl
        refine take_ (i:=10) (N:=some 24) (v:=?_) (a':=?_) #[true,true,true,true,true,true,true,true,true,true,true,false,false,false,false,false,false] rfl rfl (take_ofW HT_.out HW_.out (by kernel_rfl)) (fun _ _ _ h => h) (Or.inl ⟨by rfl,?_⟩) hHeld ?_ ?_
        rotate_left
        ·rintro w' ⟨s0,s1,s2⟩
         go_simp
         with_reducible rfl
        rotate_left
        ·simp only [Act.put,List.setIfInBounds_toArray,List.set_cons_zero,List.set_cons_succ,i64_w,i32_w]
         rfl
        refine pure_ (i:=11) (N:=some 25) (v:=?_) (a':=?_) #[true,true,true,true,true,true,true,true,true,true,true,true,false,false,false,false,false] rfl rfl (any_of HT_.out (by kernel_rfl)) (fun _ _ _ h => h) (Or.inl ⟨by rfl,?_⟩) ?_ ?_
        rotate_left
        ·intro w'
         go_simp
         with_reducible rfl
        rotate_left
        ·simp only [Act.put,List.setIfInBounds_toArray,List.set_cons_zero,List.set_cons_succ,i64_w,i32_w]
         rfl
        refine pure_ (i:=12) (N:=some 26) (v:=?_) (a':=?_) #[true,true,true,true,true,true,true,true,true,true,true,true,true,false,false,false,false] rfl rfl (any_of HT_.out (by kernel_rfl)) (fun _ _ _ h => h) (Or.inl ⟨by rfl,?_⟩) ?_ ?_
        rotate_left
        ·intro w'
         go_simp
         with_reducible rfl
        rotate_left
        ·simp only [Act.put,List.setIfInBounds_toArray,List.set_cons_zero,List.set_cons_succ,i64_w,i32_w]
         rfl
        refine pure_ (i:=13) (N:=some 27) (v:=?_) (a':=?_) #[true,true,true,true,true,true,true,true,true,true,true,true,true,true,false,false,false] rfl rfl (any_of HT_.out (by kernel_rfl)) (fun _ _ _ h => h) (Or.inl ⟨by rfl,?_⟩) ?_ ?_
        rotate_left
        ·intro w'
         go_simp
         with_reducible rfl
        rotate_left
        ·simp only [Act.put,List.setIfInBounds_toArray,List.set_cons_zero,List.set_cons_succ,i64_w,i32_w]
         rfl
        refine one_ (i:=14) (N:=some 28) #[true,true,true,true,true,true,true,true,true,true,true,true,true,true,true,false,false] rfl rfl (one_of HT_.out (by kernel_rfl)) (by decide) (fun K hK => ?_)
        refine goes_ Tryd.func97 (by kernel_rfl) rfl #[.slice A19 ((l1_1.take ((wrap64 ((ji9) + ((rdOf ByteArray.empty l0 (ji6)).size : Int))) : Int).toNat).drop ((ji9) : Int).toNat).length (c1_1 - (ji9).toNat)] (by rfl) rfl rfl (by (try simp only [List.map_toArray,List.map_cons,List.map_nil]);first|done|(rw [show ((l1_1.take ((wrap64 ((ji9) + ((rdOf ByteArray.empty l0 (ji6)).size : Int))) : Int).toNat).drop ((ji9) : Int).toNat).length = ((wrap64 ((ji9) + ((rdOf ByteArray.empty l0 (ji6)).size : Int))).toNat - (ji9).toNat) from (by rw [List.length_drop,List.length_take];have h_ : ((wrap64 ((ji9) + ((rdOf ByteArray.empty l0 (ji6)).size : Int))) : Int) ≤ (l1_1.length : Int):=of_decide_eq_true (by first|(with_reducible assumption)|assumption);omega)] <;> rfl)|(simp only [hji6,hji9];rfl)|rfl|(simp only [List.length_drop,List.length_take];rfl)) ?_
        with_reducible refine (slices_Clone_int64_int64.calls _ _ ((l1_1.take ((wrap64 ((ji9) + ((rdOf ByteArray.empty l0 (ji6)).size : Int))) : Int).toNat).drop ((ji9) : Int).toNat) t158 _ ?side1 ?side2 A13.out).mono ?_
        (case side1 => repeat (first|exact (Kd.C_below HR157.out HB.out)|(with_reducible first|refine Kd.C_alloc ?_ _|refine Kd.C_drewN ?_ _|refine Kd.C_drew ?_)))
        (case side2 => exact HC157.out)
        rintro e w20 ⟨v159,rfl,ho0,hb⟩
        refine ⟨_,rfl,?_⟩
        have n0_:=Aside0.mk (Kd.R_lower ho0 (below_size (by repeat (first|(with_reducible first|exact HB.out|apply below_alloc|apply pw_below_drewN|apply below_drew1|refine below_set ?_ GE153.out|refine below_set ?_ GE154.out)|exact HB.out))))
        have n1_:=Aside0.mk (blk_below (g:=gb153) (o:=.cells #[.int .i64 a1_0,.slice (some ad155) l1_1.length c1_1] 30 (0,0)) (by (with_reducible repeat (first|refine blk_drewN ?_ _|refine blk_drew ?_|refine blk_alloc ?_ _));exact BK153.out) hb)
        have n2_:=Aside0.mk (blk_below (g:=gb154) (o:=.cells #[.int .i64 0,.slice none 0 0] 40 (0,0)) (by (with_reducible repeat (first|refine blk_drewN ?_ _|refine blk_drew ?_|refine blk_alloc ?_ _));exact BK154.out) hb)
        have n3_:=Aside0.mk (below_step (by repeat (first|(with_reducible first|exact HB.out|apply below_alloc|apply pw_below_drewN|apply below_drew1|refine below_set ?_ GE153.out|refine below_set ?_ GE154.out)|exact HB.out)) hb)
        clear BK153
        clear BK154
        clear HB
        have HO160:=n0_
        have BK153:=n1_
        have BK154:=n2_
        have HB:=n3_
        clear n0_ n1_ n2_ n3_
        (try clear hb)
        (try clear hb2)
        (try clear hk)
        (try clear hi)
        (try clear ho0)
        obtain ⟨Ao21,co21,eo21⟩:=Kd.R_slice HO160.out
        (first|subst eo21|(injection eo21 with f1_ f2_ f3_;have f4_:=f1_.symm;have f5_:=f3_.symm;clear f1_ f2_ f3_;subst f4_;subst f5_))
        refine hK.out _ _ ⟨(blk_cell BK153.out 0).trans rfl,(blk_cell BK153.out 1).trans rfl,((HB.out.cell (World.block_lt_of_cell? w _ hw156_0)).trans hw156_0)⟩ (fun hHeld => ?_)
        clear hK K
        refine norm_ (a':=?_) ?_ ?_
        rotate_left
        ·show Act.put _ (some 28) _ = _
         simp only [Act.put,List.setIfInBounds_toArray,List.set_cons_zero,List.set_cons_succ,i64_w,i32_w]
         rfl
        refine pure_ (i:=15) (N:=some 29) (v:=?_) (a':=?_) #[true,true,true,true,true,true,true,true,true,true,true,true,true,true,true,true,false] rfl rfl (any_of HT_.out (by kernel_rfl)) (fun _ _ _ h => h) (Or.inl ⟨by rfl,?_⟩) ?_ ?_
        rotate_left
        ·intro w'
         go_simp
         with_reducible rfl
        rotate_left
        ·simp only [Act.put,List.setIfInBounds_toArray,List.set_cons_zero,List.set_cons_succ,i64_w,i32_w]
         rfl
        refine one_ (i:=16) (N:=none) #[true,true,true,true,true,true,true,true,true,true,true,true,true,true,true,true,true] rfl rfl (one_of HT_.out (by kernel_rfl)) (by decide) (fun K hK => ?_)
        have hs22 : w20.cell? ⟨gb154,0,none⟩ = some (.int .i64 0):=(blk_cell BK154.out 0).trans rfl
        have hfs22:=blk_frozen BK154.out 0
        have hns22_0:=NB153_154.out
        have hms22_0:=NB154_153.out
        have hs23 : w20.cell? ⟨gb154,1,none⟩ = some (.slice none 0 0):=(blk_cell BK154.out 1).trans rfl
        have hfs23:=blk_frozen BK154.out 1
        have hns23_0:=NB153_154.out
        have hms23_0:=NB154_153.out
        refine skip_ (w1:=?_) (by rfl) rfl ?_ ?_
        rotate_left
        ·go_simp
         rfl
        refine hK.out _ _ ⟨((cell_far (p:=⟨gb154,_,none⟩) NB153_154.out _).trans (((cell_far (p:=⟨gb154,_,none⟩) NB153_154.out _).trans (hHeld.1)))),((cell_far (p:=⟨gb154,_,none⟩) NB153_154.out _).trans (((cell_far (p:=⟨gb154,_,none⟩) NB153_154.out _).trans (hHeld.2.1)))),((cell_far (p:=⟨gb154,_,none⟩) (by first|exact Nat.ne_of_lt (Nat.lt_of_lt_of_le (by have:=World.block_lt_of_cell? _ _ hw156_0;first|rwa [add_block] at this|exact this) GW154.out)|(rw [add_block];exact Nat.ne_of_lt (Nat.lt_of_lt_of_le (by have:=World.block_lt_of_cell? _ _ hw156_0;first|rwa [add_block] at this|exact this) GW154.out))|(show (Addr.add _ _).block≠_;rw [add_block];exact Nat.ne_of_lt (Nat.lt_of_lt_of_le (by have:=World.block_lt_of_cell? _ _ hw156_0;first|rwa [add_block] at this|exact this) GW154.out))|(dsimp only;exact Nat.ne_of_lt (Nat.lt_of_lt_of_le (by have:=World.block_lt_of_cell? _ _ hw156_0;first|rwa [add_block] at this|exact this) GW154.out))) _).trans (((cell_far (p:=⟨gb154,_,none⟩) (by first|exact Nat.ne_of_lt (Nat.lt_of_lt_of_le (by have:=World.block_lt_of_cell? _ _ hw156_0;first|rwa [add_block] at this|exact this) GW154.out)|(rw [add_block];exact Nat.ne_of_lt (Nat.lt_of_lt_of_le (by have:=World.block_lt_of_cell? _ _ hw156_0;first|rwa [add_block] at this|exact this) GW154.out))|(show (Addr.add _ _).block≠_;rw [add_block];exact Nat.ne_of_lt (Nat.lt_of_lt_of_le (by have:=World.block_lt_of_cell? _ _ hw156_0;first|rwa [add_block] at this|exact this) GW154.out))|(dsimp only;exact Nat.ne_of_lt (Nat.lt_of_lt_of_le (by have:=World.block_lt_of_cell? _ _ hw156_0;first|rwa [add_block] at this|exact this) GW154.out))) _).trans (hHeld.2.2))))⟩ (fun hHeld => ?_)
        clear hK K
        refine done_ (done_of HT_.out (by kernel_rfl)) ?_
        try go_wp2
        refine bodyPost_ret (results_cell_row rfl _ _ gb154 40 #[.int .i64 ji6,.slice Ao21 t158.length co21] (0,0) _ rfl (by (with_reducible repeat (first|refine blk_drewN ?_ _|refine blk_drew ?_|refine blk_alloc ?_ _));refine blk_put (cs:=#[.int .i64 ji6,.slice none 0 0]) ?_ 1 _ rfl;(with_reducible repeat (first|refine blk_drewN ?_ _|refine blk_drew ?_|refine blk_alloc ?_ _));refine blk_put (cs:=#[.int .i64 0,.slice none 0 0]) ?_ 0 _ rfl;(with_reducible repeat (first|refine blk_drewN ?_ _|refine blk_drew ?_|refine blk_alloc ?_ _));exact BK154.out) Tryd.underlying40 rfl (by kernel_rfl)) rfl ?_
        exact ⟨_,by first|rfl|(simp [errW_none,errW_some] <;> rfl)|(simp only [← hji6,← hji9];first|rfl|(simp [errW_none,errW_some] <;> rfl))|(simp [*,errW_none,errW_some] <;> rfl),by (with_reducible repeat (first|apply Kd.R_alloc|apply Kd.R_drewN|apply Kd.R_drew));exact Kd.R_mono (Kd.R_far (p:=⟨gb154,1,none⟩) (Kd.R_far (p:=⟨gb154,0,none⟩) (Kd.R_types HO160.out BK154.out (by decide)) (fun _ hk => hk.2) (.int .i64 ji6)) (fun _ hk => hk.2) (.slice Ao21 t158.length co21)) (fun _ hk => trivial),by repeat (first|(with_reducible first|exact HB.out|apply below_alloc|apply pw_below_drewN|apply below_drew1|refine below_set ?_ GE153.out|refine below_set ?_ GE154.out)|exact HB.out)⟩
       ·rw [if_neg c12] at H
        exact absurd H (by simp)
      ·rw [if_neg c11] at H
       exact absurd H (by simp)
     ·rw [if_neg c10] at H
      exact absurd H (by simp)
    ·rw [if_neg c8] at H
     exact absurd H (by simp)
   ·rw [if_neg c7] at H
    exact absurd H (by simp)
  ·rw [if_neg c5] at H
   exact absurd H (by simp)
 ·rw [if_neg c4] at H
  exact absurd H (by simp)

end Go.Proofs.YtgfeafcgpeclcaaDoor.X
namespace Go.Proofs.YtgfeafcgpeclcaaDoor.X
open Go.RowKit Go.Proofs.YtgfeafcgpeclcaaDoorW.PrintWords Go.Proofs.YtgfeafcgpeclcaaDoorW.PrintLast Go.Proofs.YtgfeafcgpeclcaaDoorW.PrintMore
attribute [local go_sem] max2_int min2_int max_two min_two max_three min_three max_four min_four   -- for this text's walks alone
set_option linter.unusedVariables false
set_option linter.unusedSimpArgs false

/-! ### impl_size_int64: function 71 -/
def impl_size_int64.f (l0 : List Int) : Option (Int) := some (l0.length : Int)
set_option maxHeartbeats 8000000 in
set_option maxRecDepth 100000 in
theorem impl_size_int64.calls (A0 : Option Addr) (c0 : Nat) (l0 : List Int) (r : Int) (w : World) (hr0 : Kd.C (Kd.int .i64) w A0 l0.length l0) (hc0 : l0.length ≤ c0) (h : impl_size_int64.f l0 = some r) :
    Calls Tryd.prog 71 #[.slice A0 l0.length c0] w fun e w' => e = .returned (.int .i64 r) ∧ Drawn0 w w' := by
  have HR0 := Aside0.mk hr0
  have HC0 := Aside0.mk hc0
  clear hr0 hc0
  have H : (some (l0.length : Int)) = some r := h
  clear h
  obtain rfl := Option.some.inj H
  go_enter Tryd.func71, Tryd.ntmps71
  go_wp2
  go_ret
  exact ⟨by first | rfl | (simp; done) | (simp [*]; done), by repeat (first | exact Drawn0.refl _ | apply Drawn0.step)⟩

end Go.Proofs.YtgfeafcgpeclcaaDoor.X
namespace Go.Proofs.YtgfeafcgpeclcaaDoor.X
open Go.RowKit Go.Proofs.YtgfeafcgpeclcaaDoorW.PrintWords Go.Proofs.YtgfeafcgpeclcaaDoorW.PrintLast Go.Proofs.YtgfeafcgpeclcaaDoorW.PrintMore
attribute [local go_sem] max2_int min2_int max_two min_two max_three min_three max_four min_four   -- for this text's walks alone
set_option linter.unusedVariables false
set_option linter.unusedSimpArgs false

/-! ### impl_size_string: function 70 -/
def impl_size_string.f (l0 : List ByteArray) : Option (Int) := some (l0.length : Int)
set_option maxHeartbeats 8000000 in
set_option maxRecDepth 100000 in
theorem impl_size_string.calls (A0 : Option Addr) (c0 : Nat) (l0 : List ByteArray) (r : Int) (w : World) (hr0 : Kd.C Kd.string w A0 l0.length l0) (hc0 : l0.length ≤ c0) (h : impl_size_string.f l0 = some r) :
    Calls Tryd.prog 70 #[.slice A0 l0.length c0] w fun e w' => e = .returned (.int .i64 r) ∧ Drawn0 w w' := by
  have HR0 := Aside0.mk hr0
  have HC0 := Aside0.mk hc0
  clear hr0 hc0
  have H : (some (l0.length : Int)) = some r := h
  clear h
  obtain rfl := Option.some.inj H
  go_enter Tryd.func70, Tryd.ntmps70
  go_wp2
  go_ret
  exact ⟨by first | rfl | (simp; done) | (simp [*]; done), by repeat (first | exact Drawn0.refl _ | apply Drawn0.step)⟩

end Go.Proofs.YtgfeafcgpeclcaaDoor.X
namespace Go.Proofs
open Go.Shelf
def Tryd.lays231_ren : Go.Shelf.Ren := ⟨fun | 231 => 118 | n => n, fun | 9 => 9 | 5 => 5 | 3 => 3 | 4 => 4 | n => n, fun | n => n⟩
theorem Tryd.lays231 : Go.Proofs.Lays.n231 Tryd.prog Tryd.lays231_ren := {
  mixed := by kernel_rfl
  f231 := Tryd.func118.trans (congrArg some (by kernel_rfl))
  t3 := Tryd.underlying3
  a3 := Tryd.isAgg3
  z3 := Tryd.sizeOf3
  v3 := Tryd.zeroValue3
  t4 := Tryd.underlying4
  a4 := Tryd.isAgg4
  z4 := Tryd.sizeOf4
  v4 := Tryd.zeroValue4
  t5 := Tryd.underlying5
  a5 := Tryd.isAgg5
  z5 := Tryd.sizeOf5
  v5 := Tryd.zeroValue5
  t9 := Tryd.underlying9
  a9 := Tryd.isAgg9
  z9 := Tryd.sizeOf9
  v9 := Tryd.zeroValue9 }
open Go.RowKit in
/-- strings.trimLeftByte (no doc; what TrimLeft and Trim call at a cutset of one ASCII byte): the leading bytes that are c are cut off. The world is as it was. (LAID: no walk: one application.) -/
theorem Tryd.strings_trimLeftByte (s : ByteArray) (c : UInt8) (w : World) :
    Calls Tryd.prog 118 #[.string s, .int .u8 c.toNat] w fun e w' => e = .returned (.string ⟨(Lib.trimLeftB s.data.toList c).toArray⟩) ∧ w' = w := Any.strings_trimLeftByte Tryd.lays231 s c w
def Tryd.lays232_ren : Go.Shelf.Ren := ⟨fun | 232 => 119 | n => n, fun | 9 => 9 | 5 => 5 | 3 => 3 | 4 => 4 | n => n, fun | n => n⟩
theorem Tryd.lays232 : Go.Proofs.Lays.n232 Tryd.prog Tryd.lays232_ren := {
  mixed := by kernel_rfl
  f232 := Tryd.func119.trans (congrArg some (by kernel_rfl))
  t3 := Tryd.underlying3
  a3 := Tryd.isAgg3
  z3 := Tryd.sizeOf3
  v3 := Tryd.zeroValue3
  t4 := Tryd.underlying4
  a4 := Tryd.isAgg4
  z4 := Tryd.sizeOf4
  v4 := Tryd.zeroValue4
  t5 := Tryd.underlying5
  a5 := Tryd.isAgg5
  z5 := Tryd.sizeOf5
  v5 := Tryd.zeroValue5
  t9 := Tryd.underlying9
  a9 := Tryd.isAgg9
  z9 := Tryd.sizeOf9
  v9 := Tryd.zeroValue9 }
open Go.RowKit in
/-- strings.trimRightByte (no doc; what TrimRight and Trim call at a cutset of one ASCII byte): the trailing bytes that are c are cut off. The world is as it was. ('hs': a string's length is a number that an int holds.) (LAID: no walk: one application.) -/
theorem Tryd.strings_trimRightByte (s : ByteArray) (c : UInt8) (w : World) (hs : s.size ≤ 9223372036854775807) :
    Calls Tryd.prog 119 #[.string s, .int .u8 c.toNat] w fun e w' => e = .returned (.string ⟨(Lib.trimRightB s.data.toList c).toArray⟩) ∧ w' = w := Any.strings_trimRightByte Tryd.lays232 s c w hs
def Tryd.lays160_ren : Go.Shelf.Ren := ⟨fun | 160 => 116 | 232 => 119 | 231 => 118 | 227 => 120 | 234 => 122 | 233 => 121 | 236 => 124 | 235 => 123 | 228 => 125 | 271 => 128 | 151 => 127 | 197 => 126 | 120 => 131 | 152 => 130 | 260 => 129 | 137 => 132 | 119 => 133 | 224 => 134 | 225 => 135 | 217 => 136 | 266 => 137 | n => n, fun | 9 => 9 | 4 => 4 | 3 => 3 | 5 => 5 | 117 => 117 | 116 => 116 | 0 => 0 | 124 => 120 | 21 => 21 | 105 => 122 | 46 => 108 | 119 => 126 | 139 => 129 | 138 => 128 | n => n, fun | 3 => 0 | 4 => 1 | n => n⟩
theorem Tryd.lays160 : Go.Proofs.Lays.n160 Tryd.prog Tryd.lays160_ren := {
  mixed := by kernel_rfl
  f119 := Tryd.func133.trans (congrArg some (by kernel_rfl))
  f120 := Tryd.func131.trans (congrArg some (by kernel_rfl))
  f137 := Tryd.func132.trans (congrArg some (by kernel_rfl))
  f151 := Tryd.func127.trans (congrArg some (by kernel_rfl))
  f152 := Tryd.func130.trans (congrArg some (by kernel_rfl))
  f160 := Tryd.func116.trans (congrArg some (by kernel_rfl))
  f197 := Tryd.func126.trans (congrArg some (by kernel_rfl))
  f217 := Tryd.func136.trans (congrArg some (by kernel_rfl))
  f224 := Tryd.func134.trans (congrArg some (by kernel_rfl))
  f225 := Tryd.func135.trans (congrArg some (by kernel_rfl))
  f227 := Tryd.func120.trans (congrArg some (by kernel_rfl))
  f228 := Tryd.func125.trans (congrArg some (by kernel_rfl))
  f231 := Tryd.func118.trans (congrArg some (by kernel_rfl))
  f232 := Tryd.func119.trans (congrArg some (by kernel_rfl))
  f233 := Tryd.func121.trans (congrArg some (by kernel_rfl))
  f234 := Tryd.func122.trans (congrArg some (by kernel_rfl))
  f235 := Tryd.func123.trans (congrArg some (by kernel_rfl))
  f236 := Tryd.func124.trans (congrArg some (by kernel_rfl))
  f260 := Tryd.func129.trans (congrArg some (by kernel_rfl))
  f266 := Tryd.func137.trans (congrArg some (by kernel_rfl))
  f271 := Tryd.func128.trans (congrArg some (by kernel_rfl))
  t0 := Tryd.underlying0
  a0 := Tryd.isAgg0
  z0 := Tryd.sizeOf0
  v0 := Tryd.zeroValue0
  t3 := Tryd.underlying3
  a3 := Tryd.isAgg3
  z3 := Tryd.sizeOf3
  v3 := Tryd.zeroValue3
  t4 := Tryd.underlying4
  a4 := Tryd.isAgg4
  z4 := Tryd.sizeOf4
  v4 := Tryd.zeroValue4
  t5 := Tryd.underlying5
  a5 := Tryd.isAgg5
  z5 := Tryd.sizeOf5
  v5 := Tryd.zeroValue5
  t9 := Tryd.underlying9
  a9 := Tryd.isAgg9
  z9 := Tryd.sizeOf9
  v9 := Tryd.zeroValue9
  t21 := Tryd.underlying21
  a21 := Tryd.isAgg21
  z21 := Tryd.sizeOf21
  v21 := Tryd.zeroValue21
  t46 := Tryd.underlying108
  a46 := Tryd.isAgg108
  z46 := Tryd.sizeOf108
  v46 := Tryd.zeroValue108
  t105 := Tryd.underlying122
  a105 := Tryd.isAgg122
  z105 := Tryd.sizeOf122
  v105 := Tryd.zeroValue122
  t116 := Tryd.underlying116
  a116 := Tryd.isAgg116
  z116 := Tryd.sizeOf116
  t117 := Tryd.underlying117
  a117 := Tryd.isAgg117
  z117 := Tryd.sizeOf117
  v117 := Tryd.zeroValue117
  t119 := Tryd.underlying126
  a119 := Tryd.isAgg126
  z119 := Tryd.sizeOf126
  t124 := Tryd.underlying120
  a124 := Tryd.isAgg120
  z124 := Tryd.sizeOf120
  v124 := Tryd.zeroValue120
  t138 := Tryd.underlying128
  a138 := Tryd.isAgg128
  z138 := Tryd.sizeOf128
  v138 := Tryd.zeroValue128
  t139 := Tryd.underlying129
  a139 := Tryd.isAgg129
  z139 := Tryd.sizeOf129
  v139 := Tryd.zeroValue129
  g3 := by kernel_rfl
  g4 := by kernel_rfl }
open Go.RowKit in
/-- strings.Trim: "Trim returns a slice of the string s with all leading and trailing Unicode code points contained in cutset removed.": AT A cutset OF ONE ASCII BYTE. THE WORLD BEHIND IT: as it was, or (where s is not empty) with ONE DRAW MORE off the tape: the statement 'return trimLeftByte(trimRightByte(s, c), c)' draws its order of evaluation. (LAID: no walk: one application.) -/
theorem Tryd.strings_Trim_one (s : ByteArray) (c : UInt8) (hc : c.toNat < 128) (w : World) (hs : s.size ≤ 9223372036854775807) :
    Calls Tryd.prog 116 #[.string s, .string ⟨#[c]⟩] w fun e w' => e = .returned (.string ⟨(Lib.trimB s.data.toList c).toArray⟩) ∧ (w' = w ∨ w' = w.drew) := Any.strings_Trim_one Tryd.lays160 s c hc w hs
def Tryd.lays119_ren : Go.Shelf.Ren := ⟨fun | 119 => 133 | n => n, fun | 21 => 21 | 4 => 4 | n => n, fun | n => n⟩
theorem Tryd.lays119 : Go.Proofs.Lays.n119 Tryd.prog Tryd.lays119_ren := {
  mixed := by kernel_rfl
  f119 := Tryd.func133.trans (congrArg some (by kernel_rfl))
  t4 := Tryd.underlying4
  a4 := Tryd.isAgg4
  z4 := Tryd.sizeOf4
  v4 := Tryd.zeroValue4
  t21 := Tryd.underlying21
  a21 := Tryd.isAgg21
  z21 := Tryd.sizeOf21
  v21 := Tryd.zeroValue21 }
/-- utf8.ValidRune: "ValidRune reports whether r can be legally encoded as UTF-8. Code points that are out of range or a surrogate half are illegal.": IT RETURNS 'Lib.validRune r'; the world is as it was. (LAID: no walk: one application.) -/
theorem Tryd.utf8_ValidRune (r : Int) (w : World) :
    Calls Tryd.prog 133 #[.int .i32 r] w fun e w' => e = .returned (.bool (Lib.validRune r)) ∧ w' = w := Any.utf8_ValidRune Tryd.lays119 r w
def Tryd.lays120_ren : Go.Shelf.Ren := ⟨fun | 120 => 131 | n => n, fun | 5 => 5 | 4 => 4 | n => n, fun | n => n⟩
theorem Tryd.lays120 : Go.Proofs.Lays.n120 Tryd.prog Tryd.lays120_ren := {
  mixed := by kernel_rfl
  f120 := Tryd.func131.trans (congrArg some (by kernel_rfl))
  t4 := Tryd.underlying4
  a4 := Tryd.isAgg4
  z4 := Tryd.sizeOf4
  v4 := Tryd.zeroValue4
  t5 := Tryd.underlying5
  a5 := Tryd.isAgg5
  z5 := Tryd.sizeOf5
  v5 := Tryd.zeroValue5 }
/-- utf8.RuneStart: "RuneStart reports whether the byte could be the first byte of an encoded, possibly invalid rune. Second and subsequent bytes always have the top two bits set to 10.": IT RETURNS 'Lib.runeStart b'; the world is as it was. ('h0', 'h1': b is a byte: a caller has it of every byte that it was handed.) (LAID: no walk: one application.) -/
theorem Tryd.utf8_RuneStart (b : Int) (w : World) (h0 : 0 ≤ b) (h1 : b < 256) :
    Calls Tryd.prog 131 #[.int .u8 b] w fun e w' => e = .returned (.bool (Lib.runeStart b)) ∧ w' = w := Any.utf8_RuneStart Tryd.lays120 b w h0 h1
def Tryd.lays137_ren : Go.Shelf.Ren := ⟨fun | 137 => 132 | 217 => 136 | 266 => 137 | n => n, fun | 9 => 9 | 5 => 5 | 3 => 3 | n => n, fun | n => n⟩
theorem Tryd.lays137 : Go.Proofs.Lays.n137 Tryd.prog Tryd.lays137_ren := {
  mixed := by kernel_rfl
  f137 := Tryd.func132.trans (congrArg some (by kernel_rfl))
  f217 := Tryd.func136.trans (congrArg some (by kernel_rfl))
  f266 := Tryd.func137.trans (congrArg some (by kernel_rfl))
  t3 := Tryd.underlying3
  a3 := Tryd.isAgg3
  z3 := Tryd.sizeOf3
  v3 := Tryd.zeroValue3
  t5 := Tryd.underlying5
  a5 := Tryd.isAgg5
  z5 := Tryd.sizeOf5
  v5 := Tryd.zeroValue5
  t9 := Tryd.underlying9
  a9 := Tryd.isAgg9
  z9 := Tryd.sizeOf9
  v9 := Tryd.zeroValue9 }
open Go.RowKit in
/-- strings.IndexByte: "IndexByte returns the index of the first instance of c in s, or -1 if c is not present in s.": IT RETURNS 'Lib.indexByte s c'; the world is as it was. (LAID: no walk: one application.) -/
theorem Tryd.strings_IndexByte (s : ByteArray) (c : Int) (w : World) :
    Calls Tryd.prog 132 #[.string s, .int .u8 c] w fun e w' => e = .returned (.int .i64 (Lib.indexByte s.data.toList c.toNat.toUInt8)) ∧ w' = w := Any.strings_IndexByte Tryd.lays137 s c w
def Tryd.lays217_ren : Go.Shelf.Ren := ⟨fun | 217 => 136 | 266 => 137 | n => n, fun | 9 => 9 | 5 => 5 | 3 => 3 | n => n, fun | n => n⟩
theorem Tryd.lays217 : Go.Proofs.Lays.n217 Tryd.prog Tryd.lays217_ren := {
  mixed := by kernel_rfl
  f217 := Tryd.func136.trans (congrArg some (by kernel_rfl))
  f266 := Tryd.func137.trans (congrArg some (by kernel_rfl))
  t3 := Tryd.underlying3
  a3 := Tryd.isAgg3
  z3 := Tryd.sizeOf3
  v3 := Tryd.zeroValue3
  t5 := Tryd.underlying5
  a5 := Tryd.isAgg5
  z5 := Tryd.sizeOf5
  v5 := Tryd.zeroValue5
  t9 := Tryd.underlying9
  a9 := Tryd.isAgg9
  z9 := Tryd.sizeOf9
  v9 := Tryd.zeroValue9 }
open Go.RowKit Go.Lib in
/-- internal/stringslite.IndexByte (what strings.IndexByte calls): IT RETURNS 'Lib.indexByte s c'; the world is as it was. (LAID: no walk: one application.) -/
theorem Tryd.stringslite_IndexByte (s : ByteArray) (c : Int) (w : World) :
    Calls Tryd.prog 136 #[.string s, .int .u8 c] w fun e w' => e = .returned (.int .i64 (Lib.indexByte s.data.toList c.toNat.toUInt8)) ∧ w' = w := Any.stringslite_IndexByte Tryd.lays217 s c w
def Tryd.lays224_ren : Go.Shelf.Ren := ⟨fun | 224 => 134 | n => n, fun | 3 => 3 | n => n, fun | n => n⟩
theorem Tryd.lays224 : Go.Proofs.Lays.n224 Tryd.prog Tryd.lays224_ren := {
  mixed := by kernel_rfl
  f224 := Tryd.func134.trans (congrArg some (by kernel_rfl))
  t3 := Tryd.underlying3
  a3 := Tryd.isAgg3
  z3 := Tryd.sizeOf3
  v3 := Tryd.zeroValue3 }
open Go.RowKit Go.Lib in
/-- internal/bytealg.Cutover: "Cutover reports the number of failures of IndexByte we should tolerate before switching over to Index. n is the number of bytes processed so far.": on amd64: (n + 16) / 8. (LAID: no walk: one application.) -/
theorem Tryd.bytealg_Cutover (n : Int) (h0 : 0 ≤ n) (h1 : n < 4611686018427387904) (w : World) :
    Calls Tryd.prog 134 #[.int .i64 n] w fun e w' => e = .returned (.int .i64 ((n + 16) / 8)) ∧ w' = w := Any.bytealg_Cutover Tryd.lays224 n h0 h1 w
def Tryd.lays152_ren : Go.Shelf.Ren := ⟨fun | 152 => 130 | 137 => 132 | 119 => 133 | 224 => 134 | 225 => 135 | 217 => 136 | 266 => 137 | n => n, fun | 9 => 9 | 21 => 21 | 3 => 3 | 4 => 4 | 5 => 5 | 0 => 0 | 46 => 108 | n => n, fun | n => n⟩
theorem Tryd.lays152 : Go.Proofs.Lays.n152 Tryd.prog Tryd.lays152_ren := {
  mixed := by kernel_rfl
  f119 := Tryd.func133.trans (congrArg some (by kernel_rfl))
  f137 := Tryd.func132.trans (congrArg some (by kernel_rfl))
  f152 := Tryd.func130.trans (congrArg some (by kernel_rfl))
  f217 := Tryd.func136.trans (congrArg some (by kernel_rfl))
  f224 := Tryd.func134.trans (congrArg some (by kernel_rfl))
  f225 := Tryd.func135.trans (congrArg some (by kernel_rfl))
  f266 := Tryd.func137.trans (congrArg some (by kernel_rfl))
  t0 := Tryd.underlying0
  a0 := Tryd.isAgg0
  z0 := Tryd.sizeOf0
  v0 := Tryd.zeroValue0
  t3 := Tryd.underlying3
  a3 := Tryd.isAgg3
  z3 := Tryd.sizeOf3
  v3 := Tryd.zeroValue3
  t4 := Tryd.underlying4
  a4 := Tryd.isAgg4
  z4 := Tryd.sizeOf4
  v4 := Tryd.zeroValue4
  t5 := Tryd.underlying5
  a5 := Tryd.isAgg5
  z5 := Tryd.sizeOf5
  v5 := Tryd.zeroValue5
  t9 := Tryd.underlying9
  a9 := Tryd.isAgg9
  z9 := Tryd.sizeOf9
  v9 := Tryd.zeroValue9
  t21 := Tryd.underlying21
  a21 := Tryd.isAgg21
  z21 := Tryd.sizeOf21
  v21 := Tryd.zeroValue21
  t46 := Tryd.underlying108
  a46 := Tryd.isAgg108
  z46 := Tryd.sizeOf108
  v46 := Tryd.zeroValue108 }
open Go.RowKit Go.Lib in
theorem Tryd.strings_IndexRune_ascii (s : ByteArray) (r : Int) (w : World) (h0 : 0 ≤ r) (h1 : r < 128) :
    Calls Tryd.prog 130 #[.string s, .int .i32 r] w fun e w' => e = .returned (.int .i64 (Lib.indexByte s.data.toList r.toNat.toUInt8)) ∧ w' = w := Any.strings_IndexRune_ascii Tryd.lays152 s r w h0 h1
def Tryd.lays151_ren : Go.Shelf.Ren := ⟨fun | 151 => 127 | 152 => 130 | 137 => 132 | 119 => 133 | 224 => 134 | 225 => 135 | 217 => 136 | 266 => 137 | n => n, fun | 9 => 9 | 21 => 21 | 4 => 4 | 3 => 3 | 5 => 5 | 0 => 0 | 46 => 108 | n => n, fun | n => n⟩
theorem Tryd.lays151 : Go.Proofs.Lays.n151 Tryd.prog Tryd.lays151_ren := {
  mixed := by kernel_rfl
  f119 := Tryd.func133.trans (congrArg some (by kernel_rfl))
  f137 := Tryd.func132.trans (congrArg some (by kernel_rfl))
  f151 := Tryd.func127.trans (congrArg some (by kernel_rfl))
  f152 := Tryd.func130.trans (congrArg some (by kernel_rfl))
  f217 := Tryd.func136.trans (congrArg some (by kernel_rfl))
  f224 := Tryd.func134.trans (congrArg some (by kernel_rfl))
  f225 := Tryd.func135.trans (congrArg some (by kernel_rfl))
  f266 := Tryd.func137.trans (congrArg some (by kernel_rfl))
  t0 := Tryd.underlying0
  a0 := Tryd.isAgg0
  z0 := Tryd.sizeOf0
  v0 := Tryd.zeroValue0
  t3 := Tryd.underlying3
  a3 := Tryd.isAgg3
  z3 := Tryd.sizeOf3
  v3 := Tryd.zeroValue3
  t4 := Tryd.underlying4
  a4 := Tryd.isAgg4
  z4 := Tryd.sizeOf4
  v4 := Tryd.zeroValue4
  t5 := Tryd.underlying5
  a5 := Tryd.isAgg5
  z5 := Tryd.sizeOf5
  v5 := Tryd.zeroValue5
  t9 := Tryd.underlying9
  a9 := Tryd.isAgg9
  z9 := Tryd.sizeOf9
  v9 := Tryd.zeroValue9
  t21 := Tryd.underlying21
  a21 := Tryd.isAgg21
  z21 := Tryd.sizeOf21
  v21 := Tryd.zeroValue21
  t46 := Tryd.underlying108
  a46 := Tryd.isAgg108
  z46 := Tryd.sizeOf108
  v46 := Tryd.zeroValue108 }
open Go.RowKit Go.Lib in
theorem Tryd.strings_ContainsRune_ascii (s : ByteArray) (r : Int) (w : World) (h0 : 0 ≤ r) (h1 : r < 128) :
    Calls Tryd.prog 127 #[.string s, .int .i32 r] w fun e w' => e = .returned (.bool (decide (0 ≤ Lib.indexByte s.data.toList r.toNat.toUInt8))) ∧ w' = w := Any.strings_ContainsRune_ascii Tryd.lays151 s r w h0 h1
def Tryd.lays227_ren : Go.Shelf.Ren := ⟨fun | 227 => 120 | n => n, fun | 9 => 9 | 116 => 116 | 4 => 4 | 0 => 0 | 3 => 3 | 5 => 5 | n => n, fun | n => n⟩
theorem Tryd.lays227 : Go.Proofs.Lays.n227 Tryd.prog Tryd.lays227_ren := {
  mixed := by kernel_rfl
  f227 := Tryd.func120.trans (congrArg some (by kernel_rfl))
  t0 := Tryd.underlying0
  a0 := Tryd.isAgg0
  z0 := Tryd.sizeOf0
  v0 := Tryd.zeroValue0
  t3 := Tryd.underlying3
  a3 := Tryd.isAgg3
  z3 := Tryd.sizeOf3
  v3 := Tryd.zeroValue3
  t4 := Tryd.underlying4
  a4 := Tryd.isAgg4
  z4 := Tryd.sizeOf4
  v4 := Tryd.zeroValue4
  t5 := Tryd.underlying5
  a5 := Tryd.isAgg5
  z5 := Tryd.sizeOf5
  v5 := Tryd.zeroValue5
  t9 := Tryd.underlying9
  a9 := Tryd.isAgg9
  z9 := Tryd.sizeOf9
  v9 := Tryd.zeroValue9
  t116 := Tryd.underlying116
  a116 := Tryd.isAgg116
  z116 := Tryd.sizeOf116 }
open Go.RowKit Go.Lib in
theorem Tryd.strings_makeASCIISet (hv116 : ∀ w, (zeroValue 116).run Tryd.prog w = .ok (.agg (Array.replicate 256 (.bool false))) w) (chars : ByteArray) (w : World) (hs : chars.size < 4294967281) (hascii : ∀ (j : Nat) b, chars.data.toList[j]? = some b → b.toNat < 128) :
    Calls Tryd.prog 120 #[.string chars] w fun e w' => e = .returned (.tuple #[.agg (Lib.setCells chars.data.toList), .bool true]) ∧ w' = w.alloc (.cells (Lib.setCells chars.data.toList) 116) := Any.strings_makeASCIISet Tryd.lays227 hv116 (by kernel_rfl) chars w hs hascii
def Tryd.lays228_ren : Go.Shelf.Ren := ⟨fun | 228 => 125 | n => n, fun | 124 => 120 | 5 => 5 | 4 => 4 | 0 => 0 | 116 => 116 | n => n, fun | n => n⟩
theorem Tryd.lays228 : Go.Proofs.Lays.n228 Tryd.prog Tryd.lays228_ren := {
  mixed := by kernel_rfl
  f228 := Tryd.func125.trans (congrArg some (by kernel_rfl))
  t0 := Tryd.underlying0
  a0 := Tryd.isAgg0
  z0 := Tryd.sizeOf0
  v0 := Tryd.zeroValue0
  t4 := Tryd.underlying4
  a4 := Tryd.isAgg4
  z4 := Tryd.sizeOf4
  v4 := Tryd.zeroValue4
  t5 := Tryd.underlying5
  a5 := Tryd.isAgg5
  z5 := Tryd.sizeOf5
  v5 := Tryd.zeroValue5
  t116 := Tryd.underlying116
  a116 := Tryd.isAgg116
  z116 := Tryd.sizeOf116
  t124 := Tryd.underlying120
  a124 := Tryd.isAgg120
  z124 := Tryd.sizeOf120
  v124 := Tryd.zeroValue120 }
open Go.RowKit Go.Lib in
/-- '(as *asciiSet) contains(c)': 'as[c]': the set lies at block b, whole. (LAID: no walk: one application.) -/
theorem Tryd.asciiSet_contains (b : Nat) (x : UInt8) (v : Bool) (w : World) (hc : w.cell? ⟨b, x.toNat, none⟩ = some (.bool v)) :
    Calls Tryd.prog 125 #[.pointer (some ⟨b, 0, none⟩), .int .u8 x.toNat] w fun e w' => e = .returned (.bool v) ∧ w' = w := Any.asciiSet_contains Tryd.lays228 b x v w hc
def Tryd.lays260_ren : Go.Shelf.Ren := ⟨fun | 260 => 129 | n => n, fun | 9 => 9 | 21 => 21 | 3 => 3 | 4 => 4 | 5 => 5 | 119 => 126 | 0 => 0 | 46 => 108 | 139 => 129 | 138 => 128 | n => n, fun | 3 => 0 | 4 => 1 | n => n⟩
theorem Tryd.lays260 : Go.Proofs.Lays.n260 Tryd.prog Tryd.lays260_ren := {
  mixed := by kernel_rfl
  f260 := Tryd.func129.trans (congrArg some (by kernel_rfl))
  t0 := Tryd.underlying0
  a0 := Tryd.isAgg0
  z0 := Tryd.sizeOf0
  v0 := Tryd.zeroValue0
  t3 := Tryd.underlying3
  a3 := Tryd.isAgg3
  z3 := Tryd.sizeOf3
  v3 := Tryd.zeroValue3
  t4 := Tryd.underlying4
  a4 := Tryd.isAgg4
  z4 := Tryd.sizeOf4
  v4 := Tryd.zeroValue4
  t5 := Tryd.underlying5
  a5 := Tryd.isAgg5
  z5 := Tryd.sizeOf5
  v5 := Tryd.zeroValue5
  t9 := Tryd.underlying9
  a9 := Tryd.isAgg9
  z9 := Tryd.sizeOf9
  v9 := Tryd.zeroValue9
  t21 := Tryd.underlying21
  a21 := Tryd.isAgg21
  z21 := Tryd.sizeOf21
  v21 := Tryd.zeroValue21
  t46 := Tryd.underlying108
  a46 := Tryd.isAgg108
  z46 := Tryd.sizeOf108
  v46 := Tryd.zeroValue108
  t119 := Tryd.underlying126
  a119 := Tryd.isAgg126
  z119 := Tryd.sizeOf126
  t138 := Tryd.underlying128
  a138 := Tryd.isAgg128
  z138 := Tryd.sizeOf128
  v138 := Tryd.zeroValue128
  t139 := Tryd.underlying129
  a139 := Tryd.isAgg129
  z139 := Tryd.sizeOf129
  v139 := Tryd.zeroValue129
  g3 := by kernel_rfl
  g4 := by kernel_rfl }
open Go.RowKit Go.Lib in
theorem Tryd.utf8_decodeRuneInStringSlow (s : ByteArray) (w : World) (hT : Lib.Utf8Tabs 0 1 w) :
    Calls Tryd.prog 129 #[.string s] w fun e w' => e = .returned (.tuple #[.int .i32 (Lib.decodeGo s).1, .int .i64 (Lib.decodeGo s).2]) ∧ Below w.heap.size w w' := Any.utf8_decodeRuneInStringSlow Tryd.lays260 s w hT
end Go.Proofs
namespace Go.Proofs.YtgfeafcgpeclcaaDoor.X
open Go.RowKit Go.Proofs.YtgfeafcgpeclcaaDoorW.PrintWords Go.Proofs.YtgfeafcgpeclcaaDoorW.PrintLast Go.Proofs.YtgfeafcgpeclcaaDoorW.PrintMore
attribute [local go_sem] max2_int min2_int max_two min_two max_three min_three max_four min_four   -- for this text's walks alone
set_option linter.unusedVariables false
set_option linter.unusedSimpArgs false

/-! ### strings_Trim: function 116 -/

def strings_Trim.f (a0 a1 : ByteArray) : Option ByteArray :=
  if a0.size ≤ 9223372036854775807 then (if a1.size ≤ 1000 then (if a1.data.toList.all (fun b => decide (b.toNat < 128)) = true then some ⟨(Lib.trimS a0.data.toList a1.data.toList).toArray⟩ else none) else none) else none
theorem strings_Trim.calls (a0 : ByteArray) (a1 : ByteArray) (r : ByteArray) (w : World) (h : strings_Trim.f a0 a1 = some r) :
    Calls Tryd.prog 116 #[.string a0, .string a1] w fun e w' => e = .returned (.string r) ∧ Below w.heap.size w w' := by
  unfold strings_Trim.f at h
  split at h
  · rename_i h0
    split at h
    · rename_i h1
      split at h
      · rename_i h2
        obtain rfl := Option.some.inj h
        exact Go.Proofs.Any.strings_Trim_laid Go.Proofs.Tryd.lays160 (by kernel_rfl) a0 a1 w h0 (by omega) (Go.Proofs.ascii_of_all h2)
      · cases h
    · cases h
  · cases h


end Go.Proofs.YtgfeafcgpeclcaaDoor.X
namespace Go.Proofs.YtgfeafcgpeclcaaDoor.X
open Go.RowKit Go.Proofs.YtgfeafcgpeclcaaDoorW.PrintWords Go.Proofs.YtgfeafcgpeclcaaDoorW.PrintLast Go.Proofs.YtgfeafcgpeclcaaDoorW.PrintMore
attribute [local go_sem] max2_int min2_int max_two min_two max_three min_three max_four min_four   -- for this text's walks alone
set_option linter.unusedVariables false
set_option linter.unusedSimpArgs false

/-! ### impl_isType: function 111 -/
def impl_isType.f (a0 : ByteArray) : Option (Bool) := (impl_within.f (a0.size : Int) 1 23).bind fun t178 => (if t178 = true then ((strings_Trim.f a0 (⟨#[105, 114]⟩ : ByteArray)).bind fun t179 => (some (t179.toList == ([] : List UInt8)))) else (some false))
set_option maxHeartbeats 8000000 in
set_option maxRecDepth 100000 in
theorem impl_isType.calls (a0 : ByteArray) (r : Bool) (w : World) (h : impl_isType.f a0 = some r) :
    Calls Tryd.prog 111 #[.string a0] w fun e w' => e = .returned (.bool r) ∧ Below w.heap.size w w' := by
  have HB := Aside0.mk (Below.refl w.heap.size w)
  have H : ((impl_within.f (a0.size : Int) 1 23).bind fun t178 => (if t178 = true then ((strings_Trim.f a0 (⟨#[105, 114]⟩ : ByteArray)).bind fun t179 => (some (t179.toList == ([] : List UInt8)))) else (some false))) = some r := h
  clear h
  replace H := Option.bind_eq_some_iff.mp H
  obtain ⟨t178, A20, H⟩ := H
  replace H : (if t178 = true then ((strings_Trim.f a0 (⟨#[105, 114]⟩ : ByteArray)).bind fun t179 => (some (t179.toList == ([] : List UInt8)))) else (some false)) = some r := H
  have A2 := Aside0.mk A20
  clear A20
  by_cases c3 : t178 = true
  · subst c3
    have H1 : ((strings_Trim.f a0 (⟨#[105, 114]⟩ : ByteArray)).bind fun t179 => (some (t179.toList == ([] : List UInt8)))) = some r := by rw [if_pos rfl] at H; exact H
    clear H
    have H := H1
    clear H1
    replace H := Option.bind_eq_some_iff.mp H
    obtain ⟨t179, A40, H⟩ := H
    replace H : (some (t179.toList == ([] : List UInt8))) = some r := H
    have A4 := Aside0.mk A40
    clear A40
    obtain rfl := Option.some.inj H
    go_enter Tryd.func111, Tryd.ntmps111
    go_wp2_with (first | ((with_reducible refine gate_callee (f := 69) rfl ?_); refine goesL_ (some 5) rfl rfl Tryd.func69 (by kernel_rfl) rfl #[.int .i64 (a0.size : Int), .int .i64 1, .int .i64 23] rfl (by (try simp only [List.map_toArray, List.map_cons, List.map_nil]); first | done | rfl | (simp only [List.length_drop, List.length_take]; rfl)) ?_; (with_reducible refine (impl_within.calls (a0.size : Int) 1 23 true _ A2.out).mono ?_); rintro e w' ⟨rfl, ⟨nd, rfl⟩⟩; refine ⟨_, rfl, ?_⟩) | (go_at_call 116; (with_reducible refine (strings_Trim.calls a0 (⟨#[105, 114]⟩ : ByteArray) t179 _ A4.out).mono ?_); rintro e w5 ⟨rfl, hb⟩; have n0_ := Aside0.mk (below_step (by repeat (first | (with_reducible first | exact HB.out | apply below_alloc | apply pw_below_drewN | apply below_drew1) | exact HB.out)) hb); clear HB; have HB := n0_; clear n0_; (try clear hb); (try clear hb2); (try clear hk); (try clear hi)))
    go_ret
    exact ⟨by first | rfl | (simp [errW_none, errW_some] <;> rfl) | (simp [*, errW_none, errW_some] <;> rfl), by repeat (first | (with_reducible first | exact HB.out | apply below_alloc | apply pw_below_drewN | apply below_drew1) | exact HB.out)⟩
  · replace c3 := Bool.eq_false_iff.mpr c3
    subst c3
    have H1 : (some false) = some r := by rw [if_neg (show ¬ (false = true) by decide)] at H; exact H
    clear H
    have H := H1
    clear H1
    obtain rfl := Option.some.inj H
    go_enter Tryd.func111, Tryd.ntmps111
    go_wp2_with (first | ((with_reducible refine gate_callee (f := 69) rfl ?_); refine goesL_ (some 5) rfl rfl Tryd.func69 (by kernel_rfl) rfl #[.int .i64 (a0.size : Int), .int .i64 1, .int .i64 23] rfl (by (try simp only [List.map_toArray, List.map_cons, List.map_nil]); first | done | rfl | (simp only [List.length_drop, List.length_take]; rfl)) ?_; (with_reducible refine (impl_within.calls (a0.size : Int) 1 23 false _ A2.out).mono ?_); rintro e w' ⟨rfl, ⟨nd, rfl⟩⟩; refine ⟨_, rfl, ?_⟩))
    go_ret
    exact ⟨by first | rfl | (simp [errW_none, errW_some] <;> rfl) | (simp [*, errW_none, errW_some] <;> rfl), by repeat (first | (with_reducible first | exact HB.out | apply below_alloc | apply pw_below_drewN | apply below_drew1) | exact HB.out)⟩

end Go.Proofs.YtgfeafcgpeclcaaDoor.X
namespace Go.Proofs.YtgfeafcgpeclcaaDoor.X
open Go.RowKit Go.Proofs.YtgfeafcgpeclcaaDoorW.PrintWords Go.Proofs.YtgfeafcgpeclcaaDoorW.PrintLast Go.Proofs.YtgfeafcgpeclcaaDoorW.PrintMore
attribute [local go_sem] max2_int min2_int max_two min_two max_three min_three max_four min_four   -- for this text's walks alone
set_option linter.unusedVariables false
set_option linter.unusedSimpArgs false

/-! ### impl_TypesOk_1: function 110 -/
def impl_TypesOk_1.f (a0 : ByteArray) : Option (Bool) := (impl_isType.f a0).bind fun t180 => (some (!t180))
set_option maxHeartbeats 8000000 in
set_option maxRecDepth 100000 in
theorem impl_TypesOk_1.calls (a0 : ByteArray) (r : Bool) (w : World) (h : impl_TypesOk_1.f a0 = some r) :
    Calls Tryd.prog 110 #[.string a0] w fun e w' => e = .returned (.bool r) ∧ Below w.heap.size w w' := by
  have HB := Aside0.mk (Below.refl w.heap.size w)
  have H : ((impl_isType.f a0).bind fun t180 => (some (!t180))) = some r := h
  clear h
  replace H := Option.bind_eq_some_iff.mp H
  obtain ⟨t180, A20, H⟩ := H
  replace H : (some (!t180)) = some r := H
  have A2 := Aside0.mk A20
  clear A20
  obtain rfl := Option.some.inj H
  go_enter Tryd.func110, Tryd.ntmps110
  go_wp2_with (first | ((with_reducible refine gate_callee (f := 111) rfl ?_); refine goesL_ (some 4) rfl rfl Tryd.func111 (by kernel_rfl) rfl #[.string a0] rfl (by (try simp only [List.map_toArray, List.map_cons, List.map_nil]); first | done | rfl | (simp only [List.length_drop, List.length_take]; rfl)) ?_; (with_reducible refine (impl_isType.calls a0 t180 _ A2.out).mono ?_); rintro e w3 ⟨rfl, hb⟩; refine ⟨_, rfl, ?_⟩; have n0_ := Aside0.mk (below_step (by repeat (first | (with_reducible first | exact HB.out | apply below_alloc | apply pw_below_drewN | apply below_drew1) | exact HB.out)) hb); clear HB; have HB := n0_; clear n0_; (try clear hb); (try clear hb2); (try clear hk); (try clear hi)))
  go_ret
  exact ⟨by first | rfl | (simp [errW_none, errW_some] <;> rfl) | (simp [*, errW_none, errW_some] <;> rfl), by repeat (first | (with_reducible first | exact HB.out | apply below_alloc | apply pw_below_drewN | apply below_drew1) | exact HB.out)⟩

end Go.Proofs.YtgfeafcgpeclcaaDoor.X
namespace Go.Proofs.YtgfeafcgpeclcaaDoor.X
open Go.RowKit Go.Proofs.YtgfeafcgpeclcaaDoorW.PrintWords Go.Proofs.YtgfeafcgpeclcaaDoorW.PrintLast
set_option linter.unusedVariables false
/-- Does p say yes to an element (asked in order, up to the first yes). -/
def anyO {α : Type} (p : α → Option Bool) : List α → Option Bool
  | [] => some false
  | x :: l => (p x).bind fun b => if b = true then some true else anyO p l
theorem anyO_mono {α : Type} {p q : α → Option Bool} (h : ∀ x, LeO (p x) (q x)) : ∀ l, LeO (anyO p l) (anyO q l)
  | [] => LeO.refl _
  | x :: l => LeO.bind (h x) (fun b => LeO.ite (LeO.refl _) (anyO_mono h l))
theorem anyO_some {α : Type} {p : α → Option Bool} {f : α → Bool} : ∀ {l : List α}, (∀ x ∈ l, p x = some (f x)) → anyO p l = some (l.any f)
  | [], _ => rfl
  | x :: l, h => by
    have ih := anyO_some (p := p) (f := f) (l := l) (fun y hy => h y (by simp [hy]))
    rw [anyO, h x (by simp), Option.bind_some, ih, List.any_cons]
    cases f x <;> rfl
end Go.Proofs.YtgfeafcgpeclcaaDoor.X
namespace Go.Proofs.YtgfeafcgpeclcaaDoor.X
open Go.RowKit Go.Proofs.YtgfeafcgpeclcaaDoorW.PrintWords Go.Proofs.YtgfeafcgpeclcaaDoorW.PrintLast Go.Proofs.YtgfeafcgpeclcaaDoorW.PrintMore
attribute [local go_sem] max2_int min2_int max_two min_two max_three min_three max_four min_four   -- for this text's walks alone
set_option linter.unusedVariables false
set_option linter.unusedSimpArgs false

/-! ### slices_ContainsFunc_impl_TypesOk_1: function 1000000 -/
def slices_ContainsFunc_impl_TypesOk_1.f (l0 : List (ByteArray)) : Option Bool := anyO (fun x => impl_TypesOk_1.f x) l0
theorem slices_ContainsFunc_impl_TypesOk_1.one (x : ByteArray) (b : Bool) (W : World) (h : impl_TypesOk_1.f x = some b) : Calls Tryd.prog 110 #[.string x] W fun e w' => e = .returned (.bool b) ∧ Below W.heap.size W w' :=
  (impl_TypesOk_1.calls x b W h).mono fun _ _ h => ⟨h.1, h.2⟩
def slices_ContainsFunc_impl_TypesOk_1.Post (r : Bool) (w : World) (e : Ending) (w' : World) : Prop := ∃ n : Int, e = .returned (.int .i64 n) ∧ decide (0 ≤ n) = r ∧ Below w.heap.size w w'
set_option maxHeartbeats 1000000 in
set_option maxRecDepth 100000 in
theorem slices_ContainsFunc_impl_TypesOk_1.index (A : Option Addr) (c : Nat) (l : List (ByteArray)) (w : World) (hr : Kd.C Kd.string w A l.length l) (hc : l.length ≤ c) (r : Bool) (h : slices_ContainsFunc_impl_TypesOk_1.f l = some r) : Calls Tryd.prog 115 #[.slice A l.length c, .func (.func 110) #[] #[]] w (slices_ContainsFunc_impl_TypesOk_1.Post r w) := by
  have hlen : l.length ≤ 9223372036854775807 := hr.2.1
  unfold slices_ContainsFunc_impl_TypesOk_1.f at h
  go_enter Tryd.func115, Tryd.ntmps115
  go_wp2_with fail
  go_loopw [4, 8] (fun _ v wr => ∃ i : Nat, i ≤ l.length ∧ v = .int .i64 i ∧ Hid (anyO (fun x => impl_TypesOk_1.f x) (l.drop i) = some r) ∧ Below w.heap.size w wr) (fun _ v _ => l.length - (intOf v).toNat)
  case atStart => exact ⟨0, by omega, rfl, Lib.hid (by simpa using h), Below.refl _ _⟩
  case round =>
    obtain ⟨i, hi, rfl, HA, hb⟩ := hrel
    by_cases hlt : i < l.length
    · obtain ⟨ad, rfl, hcell⟩ := Kd.at_string (Kd.C_below hr hb) (i : Int) (by omega) (by omega)
      rw [Int.toNat_natCast, show rdOf ByteArray.empty l (i : Int) = l[i] from by simp [rd, rdOf, List.getD_eq_getElem?_getD, List.getElem?_eq_getElem hlt]] at hcell
      have ha := HA.out
      rw [List.drop_eq_getElem_cons hlt, anyO] at ha
      obtain ⟨b, hb1, hb2⟩ := Option.bind_eq_some_iff.1 ha
      have hcall := Lib.hid (fun W => slices_ContainsFunc_impl_TypesOk_1.one l[i] b W hb1)
      clear ha hr h
      generalize l[i] = x at *
      go_wp2_with (go_at_call 110; refine (hcall.out _).mono ?_; rintro e w' ⟨rfl, hbw⟩)
      · have hbt : b = true := by assumption
        subst hbt
        go_ret
        refine ⟨(i : Int), rfl, ?_, below_step hb hbw⟩
        rw [if_pos rfl] at hb2
        rw [← Option.some.inj hb2]
        exact decide_eq_true (by omega)
      · go_roundw
        case rel =>
          have hbf : b = false := by assumption
          subst hbf
          rw [if_neg (by simp)] at hb2
          exact ⟨i + 1, by omega, by go_num, Lib.hid hb2, below_step hb hbw⟩
        case measure => simp [intOf]; omega
    · have ha := HA.out
      rw [List.drop_eq_nil_of_le (by omega), anyO] at ha
      have ha2 := Lib.hid (Option.some.inj ha)
      clear ha HA h hr
      go_wp2_with fail
      go_ret
      exact ⟨-1, rfl, by rw [← ha2.out]; rfl, hb⟩
theorem slices_ContainsFunc_impl_TypesOk_1.calls (A0 : Option Addr) (c0 : Nat) (l0 : List (ByteArray)) (r : Bool) (w : World) (hr0 : Kd.C Kd.string w A0 l0.length l0) (hc0 : l0.length ≤ c0) (h : slices_ContainsFunc_impl_TypesOk_1.f l0 = some r) :
    Calls Tryd.prog 109 #[.slice A0 l0.length c0, .func (.func 110) #[] #[]] w fun e w' => e = .returned (.bool r) ∧ Below w.heap.size w w' := by
  have hcall := Lib.hid (slices_ContainsFunc_impl_TypesOk_1.index A0 c0 l0 w hr0 hc0 r h)
  clear h hr0
  go_enter Tryd.func109, Tryd.ntmps109
  go_wp2_with (go_at_call 115; refine hcall.out.mono ?_; rintro e w' ⟨n, rfl, hn, hb⟩)
  go_ret
  exact ⟨rfl, hb⟩


end Go.Proofs.YtgfeafcgpeclcaaDoor.X
namespace Go.Proofs.YtgfeafcgpeclcaaDoor.X
open Go.RowKit Go.Proofs.YtgfeafcgpeclcaaDoorW.PrintWords Go.Proofs.YtgfeafcgpeclcaaDoorW.PrintLast Go.Proofs.YtgfeafcgpeclcaaDoorW.PrintMore
attribute [local go_sem] max2_int min2_int max_two min_two max_three min_three max_four min_four   -- for this text's walks alone
set_option linter.unusedVariables false
set_option linter.unusedSimpArgs false

/-! ### impl_TypesOk: function 92 -/
def impl_TypesOk.f (l0 : List ByteArray) : Option (Bool) := (impl_size_string.f l0).bind fun t181 => ((impl_within.f t181 1 12).bind fun t182 => (if t182 = true then ((slices_ContainsFunc_impl_TypesOk_1.f l0).bind fun t183 => (some (!t183))) else (some false)))
set_option maxHeartbeats 8000000 in
set_option maxRecDepth 100000 in
theorem impl_TypesOk.calls (A0 : Option Addr) (c0 : Nat) (l0 : List ByteArray) (r : Bool) (w : World) (hr0 : Kd.C Kd.string w A0 l0.length l0) (hc0 : l0.length ≤ c0) (h : impl_TypesOk.f l0 = some r) :
    Calls Tryd.prog 92 #[.slice A0 l0.length c0] w fun e w' => e = .returned (.bool r) ∧ Below w.heap.size w w' := by
  have HR0 := Aside0.mk hr0
  have HC0 := Aside0.mk hc0
  clear hr0 hc0
  have HB := Aside0.mk (Below.refl w.heap.size w)
  have H : ((impl_size_string.f l0).bind fun t181 => ((impl_within.f t181 1 12).bind fun t182 => (if t182 = true then ((slices_ContainsFunc_impl_TypesOk_1.f l0).bind fun t183 => (some (!t183))) else (some false)))) = some r := h
  clear h
  replace H := Option.bind_eq_some_iff.mp H
  obtain ⟨t181, A20, H⟩ := H
  replace H : ((impl_within.f t181 1 12).bind fun t182 => (if t182 = true then ((slices_ContainsFunc_impl_TypesOk_1.f l0).bind fun t183 => (some (!t183))) else (some false))) = some r := H
  have A2 := Aside0.mk A20
  clear A20
  replace H := Option.bind_eq_some_iff.mp H
  obtain ⟨t182, A30, H⟩ := H
  replace H : (if t182 = true then ((slices_ContainsFunc_impl_TypesOk_1.f l0).bind fun t183 => (some (!t183))) else (some false)) = some r := H
  have A3 := Aside0.mk A30
  clear A30
  by_cases c4 : t182 = true
  · subst c4
    have H1 : ((slices_ContainsFunc_impl_TypesOk_1.f l0).bind fun t183 => (some (!t183))) = some r := by rw [if_pos rfl] at H; exact H
    clear H
    have H := H1
    clear H1
    replace H := Option.bind_eq_some_iff.mp H
    obtain ⟨t183, A50, H⟩ := H
    replace H : (some (!t183)) = some r := H
    have A5 := Aside0.mk A50
    clear A50
    obtain rfl := Option.some.inj H
    go_enter Tryd.func92, Tryd.ntmps92
    go_wp2_with (first | ((with_reducible refine gate_callee (f := 70) rfl ?_); refine goesL_ (some 4) rfl rfl Tryd.func70 (by kernel_rfl) rfl #[.slice A0 l0.length c0] rfl (by (try simp only [List.map_toArray, List.map_cons, List.map_nil]); first | done | rfl | (simp only [List.length_drop, List.length_take]; rfl)) ?_; (with_reducible refine (impl_size_string.calls _ _ l0 t181 _ ?side1 ?side2 A2.out).mono ?_); (case side1 => repeat (first | exact HR0.out | (with_reducible refine Kd.C_alloc ?_ _) | (with_reducible refine Kd.C_drewN ?_ _) | (with_reducible refine Kd.C_drew ?_))); (case side2 => exact HC0.out); rintro e w' ⟨rfl, ⟨nd, rfl⟩⟩; refine ⟨_, rfl, ?_⟩) | ((with_reducible refine gate_callee (f := 69) rfl ?_); refine goesL_ (some 5) rfl rfl Tryd.func69 (by kernel_rfl) rfl #[.int .i64 t181, .int .i64 1, .int .i64 12] rfl (by (try simp only [List.map_toArray, List.map_cons, List.map_nil]); first | done | rfl | (simp only [List.length_drop, List.length_take]; rfl)) ?_; (with_reducible refine (impl_within.calls t181 1 12 true _ A3.out).mono ?_); rintro e w' ⟨rfl, ⟨nd, rfl⟩⟩; refine ⟨_, rfl, ?_⟩) | (go_at_call 109; (with_reducible refine (slices_ContainsFunc_impl_TypesOk_1.calls _ _ l0  t183 _ ?side1 ?side2 A5.out).mono ?_); (case side1 => repeat (first | exact HR0.out | (with_reducible refine Kd.C_alloc ?_ _) | (with_reducible refine Kd.C_drewN ?_ _) | (with_reducible refine Kd.C_drew ?_))); (case side2 => exact HC0.out); rintro e w6 ⟨rfl, hb⟩; have n0_ := Aside0.mk (below_step (by repeat (first | (with_reducible first | exact HB.out | apply below_alloc | apply pw_below_drewN | apply below_drew1) | exact HB.out)) hb); clear HB; have HB := n0_; clear n0_; (try clear hb); (try clear hb2); (try clear hk); (try clear hi)))
    go_ret
    exact ⟨by first | rfl | (simp [errW_none, errW_some] <;> rfl) | (simp [*, errW_none, errW_some] <;> rfl), by repeat (first | (with_reducible first | exact HB.out | apply below_alloc | apply pw_below_drewN | apply below_drew1) | exact HB.out)⟩
  · replace c4 := Bool.eq_false_iff.mpr c4
    subst c4
    have H1 : (some false) = some r := by rw [if_neg (show ¬ (false = true) by decide)] at H; exact H
    clear H
    have H := H1
    clear H1
    obtain rfl := Option.some.inj H
    go_enter Tryd.func92, Tryd.ntmps92
    go_wp2_with (first | ((with_reducible refine gate_callee (f := 70) rfl ?_); refine goesL_ (some 4) rfl rfl Tryd.func70 (by kernel_rfl) rfl #[.slice A0 l0.length c0] rfl (by (try simp only [List.map_toArray, List.map_cons, List.map_nil]); first | done | rfl | (simp only [List.length_drop, List.length_take]; rfl)) ?_; (with_reducible refine (impl_size_string.calls _ _ l0 t181 _ ?side1 ?side2 A2.out).mono ?_); (case side1 => repeat (first | exact HR0.out | (with_reducible refine Kd.C_alloc ?_ _) | (with_reducible refine Kd.C_drewN ?_ _) | (with_reducible refine Kd.C_drew ?_))); (case side2 => exact HC0.out); rintro e w' ⟨rfl, ⟨nd, rfl⟩⟩; refine ⟨_, rfl, ?_⟩) | ((with_reducible refine gate_callee (f := 69) rfl ?_); refine goesL_ (some 5) rfl rfl Tryd.func69 (by kernel_rfl) rfl #[.int .i64 t181, .int .i64 1, .int .i64 12] rfl (by (try simp only [List.map_toArray, List.map_cons, List.map_nil]); first | done | rfl | (simp only [List.length_drop, List.length_take]; rfl)) ?_; (with_reducible refine (impl_within.calls t181 1 12 false _ A3.out).mono ?_); rintro e w' ⟨rfl, ⟨nd, rfl⟩⟩; refine ⟨_, rfl, ?_⟩))
    go_ret
    exact ⟨by first | rfl | (simp [errW_none, errW_some] <;> rfl) | (simp [*, errW_none, errW_some] <;> rfl), by repeat (first | (with_reducible first | exact HB.out | apply below_alloc | apply pw_below_drewN | apply below_drew1) | exact HB.out)⟩

end Go.Proofs.YtgfeafcgpeclcaaDoor.X
namespace Go.Proofs.YtgfeafcgpeclcaaDoor.X
open Go.RowKit Go.Proofs.YtgfeafcgpeclcaaDoorW.PrintWords Go.Proofs.YtgfeafcgpeclcaaDoorW.PrintLast Go.Proofs.YtgfeafcgpeclcaaDoorW.PrintMore
attribute [local go_sem] max2_int min2_int max_two min_two max_three min_three max_four min_four   -- for this text's walks alone
set_option linter.unusedVariables false
set_option linter.unusedSimpArgs false

/-! ### impl_starts: function 93 -/
def impl_starts.l0 : Nat → List ByteArray → List Int → Int → Int → List Int → Option (List Int × Bool)
 | 0,_,_,_,_,_ => none
 | k + 1,x0,x6,x7,x185000,x185001 => (impl_size_int64.f x185001).bind fun t188 => (if x7 < t188 then (if 0 ≤ x7 then (if x7 < (x185001.length : Int) then ((impl_size_string.f x0).bind fun t190 => ((impl_within.f (rd x185001 x7) 0 (wrap64 ((wrap64 (4 * t190)) - 1))).bind fun t191 => (if t191 = true then (if x6.length < 17592186044416 then (if 0 ≤ (wrap64 (Int.tdiv (rd x185001 x7) 4)) then (if (wrap64 (Int.tdiv (rd x185001 x7) 4)) < (x0.length : Int) then ((impl_size_int64.f x185001).bind fun t196 => (if (wrap64 (x7 + (wrap64 (1 + ((rdOf ByteArray.empty x0 (wrap64 (Int.tdiv (rd x185001 x7) 4))).size : Int))))) > t196 then (some (([] : List Int),false)) else (impl_starts.l0 k x0 (x6 ++ [x7]) (wrap64 (x7 + (wrap64 (1 + ((rdOf ByteArray.empty x0 (wrap64 (Int.tdiv (rd x185001 x7) 4))).size : Int))))) x185000 x185001))) else (none)) else (none)) else (none)) else (some (([] : List Int),false))))) else (none)) else (none)) else (some (x6,true)))
def impl_starts.f (k : Nat) (l0 : List ByteArray) (a1_0 : Int) (l1_1 : List Int) : Option (List Int × Bool) := impl_starts.l0 k l0 (([] : List Int)) 0 a1_0 l1_1
theorem impl_starts.mono_l : ∀ k, (∀ y0 y1 y2 y3 y4, LeO (impl_starts.l0 k y0 y1 y2 y3 y4) (impl_starts.l0 (k + 1) y0 y1 y2 y3 y4))
 | 0 => fun _ _ _ _ _ r h => by simp [impl_starts.l0] at h
 | k + 1 => by
  have ih0:=impl_starts.mono_l k
  ·intro y0 y1 y2 y3 y4
   unfold impl_starts.l0
   repeat' first
   | (with_reducible exact ih0 _ _ _ _ _)
   | (with_reducible exact LeO.refl _)
   | (with_reducible exact LeO.none _)
   | (with_reducible refine LeO.ite ?_ ?_)
   | (with_reducible refine LeO.bind ?_ (fun _ => ?_))
   | exact ih0 _ _ _ _ _
   | exact LeO.none _
   | refine LeO.ite ?_ ?_
   | refine LeO.bind ?_ (fun _ => ?_)
theorem impl_starts.mono : ∀ a0 a1 a2 k, LeO (impl_starts.f k a0 a1 a2) (impl_starts.f (k + 1) a0 a1 a2) := by
 intro a0 a1 a2 k
 have ih0:=impl_starts.mono_l k
 unfold impl_starts.f
 repeat' first
   | (with_reducible exact ih0 _ _ _ _ _)
   | (with_reducible exact LeO.refl _)
   | (with_reducible exact LeO.none _)
   | (with_reducible refine LeO.ite ?_ ?_)
   | (with_reducible refine LeO.bind ?_ (fun _ => ?_))
   | exact ih0 _ _ _ _ _
   | exact LeO.none _
   | refine LeO.ite ?_ ?_
   | refine LeO.bind ?_ (fun _ => ?_)
set_option maxHeartbeats 8000000 in
set_option maxRecDepth 100000 in
theorem impl_starts.calls (k : Nat) (A0 : Option Addr) (c0 : Nat) (l0 : List ByteArray) (a1_0 : Int) (A1_1 : Option Addr) (c1_1 : Nat) (l1_1 : List Int) (r1 : List Int) (r2 : Bool) (w : World) (hr0 : Kd.C Kd.string w A0 l0.length l0) (hc0 : l0.length ≤ c0) (hr1_1 : Kd.C (Kd.int .i64) w A1_1 l1_1.length l1_1) (hc1_1 : l1_1.length ≤ c1_1) (h : impl_starts.f k l0 a1_0 l1_1 = some (r1, r2)) :
  Calls Tryd.prog 93 #[.slice A0 l0.length c0,.agg #[.int .i64 a1_0,.slice A1_1 l1_1.length c1_1]] w fun e w' => ∃ v0_ : Value,e = .returned (.tuple #[v0_,.bool r2])∧Kd.R (Kd.int .i64) 2 w' w.heap.size (fun _ => True) v0_ r1∧Below w.heap.size w w':=by
 have hu30:=Tryd.underlying30
 have HR0:=Aside0.mk hr0
 have HC0:=Aside0.mk hc0
 clear hr0 hc0
 have HR1_1:=Aside0.mk hr1_1
 have HC1_1:=Aside0.mk hc1_1
 clear hr1_1 hc1_1
 have HB:=Aside0.mk (Below.refl w.heap.size w)
 have H : (impl_starts.l0 k l0 (([] : List Int)) 0 a1_0 l1_1) = some (r1,r2):=h
 clear h
 obtain ⟨y185,hy185⟩ : ∃ y_ : List Int,y_ = (([] : List Int)):=⟨_,rfl⟩
 replace H : (impl_starts.l0 k l0 y185 0 a1_0 l1_1) = some (r1,r2):=by first|(rw [hy185];with_reducible exact H)|(have H2_:=(Option.bind_some _ _).symm.trans H;rw [hy185];with_reducible exact H2_)|(have H2_:=(Option.bind_some _ _).symm.trans H;with_reducible exact H2_)|with_reducible exact H|(rw [hy185];exact H)|exact H
 have Ny185:=Aside0.mk hy185
 clear hy185
 have H':=Aside0.mk H
 clear H
 go_enter Tryd.func93,Tryd.ntmps93
 go_wp2_with (first|((with_reducible refine gate_dst (N:=3) rfl ?_);refine box_event ?hg (N:=3) ?hd (cs:=#[.int .i64 a1_0,.slice A1_1 l1_1.length c1_1]) (t:=30) ?hr ?_;(case hd => rfl);(case hg => rfl);(case hr => first|(go_simp;done)|(go_simp;rfl));intro gb184 hg w3 hbox hb;have n0_:=Aside0.mk (below_step (by repeat (first|(with_reducible first|exact HB.out|apply below_alloc|apply pw_below_drewN|apply below_drew1)|exact HB.out)) hb);have n1_:=Aside0.mk (hbox);have n2_:=Aside0.mk ((by rw [hg];exact (below_size (by repeat (first|(with_reducible first|exact HB.out|apply below_alloc|apply pw_below_drewN|apply below_drew1)|exact HB.out))) : w.heap.size ≤ gb184));have n3_:=Aside0.mk ((by rw [hg];exact (below_size (by repeat (first|(with_reducible first|exact HB.out|apply below_alloc|apply pw_below_drewN|apply below_drew1)|exact HB.out))) : w.heap.size ≤ gb184));clear HB;have HB:=n0_;have BK184:=n1_;have GW184:=n2_;have GE184:=n3_;clear n0_ n1_ n2_ n3_;clear hb hbox hg)|((with_reducible refine gate_dst (N:=9) rfl ?_);refine Kd.R_lit (Kd.int .i64) _ 2 ?hg (N:=9) ?hd (xs:=([] : List Int)) (inner:=[]) (ok:=fun _ => True) (okp:=fun _ => True) ?hr ?hp (fun _ hk => hk) trivial (Below.refl _ _) (Nat.le_refl _) (by simp) ?_;(case hd => rfl);(case hg => rfl);(case hr => first|(go_simp;done)|(go_simp;rfl));(case hp => exact (Reps.none _ _));intro v186 w4 ho5 hb hg_ hnew_;clear hg_ hnew_;(first|rw [← Ny185.out] at ho5|(simp only [Int.reduceToNat] at ho5;rw [← Ny185.out] at ho5));have n0_:=Aside0.mk (Kd.R_lower ho5 (below_size (by repeat (first|(with_reducible first|exact HB.out|apply below_alloc|apply pw_below_drewN|apply below_drew1|refine below_set ?_ GE184.out)|exact HB.out))));have n1_:=Aside0.mk (blk_below (g:=gb184) (o:=.cells #[.int .i64 a1_0,.slice A1_1 l1_1.length c1_1] 30 (0,0)) (by (with_reducible repeat (first|refine blk_drewN ?_ _|refine blk_drew ?_|refine blk_alloc ?_ _));exact BK184.out) hb);have n2_:=Aside0.mk (below_step (by repeat (first|(with_reducible first|exact HB.out|apply below_alloc|apply pw_below_drewN|apply below_drew1|refine below_set ?_ GE184.out)|exact HB.out)) hb);clear BK184 HB;have HO187:=n0_;have BK184:=n1_;have HB:=n2_;clear n0_ n1_ n2_;clear hb ho5))
 go_loopg [6,7] k (fun kq v6 v7 w' => ∃ (x6_1 : List Int) (x7_1 : Int),v7 = .int .i64 x7_1∧Aside0 (impl_starts.l0 kq l0 x6_1 x7_1 a1_0 l1_1 = some (r1,r2))∧Aside0 (kq ≤ k)∧Aside0 (Kd.R (Kd.int .i64) 2 w' w.heap.size (fun _ => True) v6 x6_1)∧Aside0 (w'.heap[gb184]? = some (.cells #[.int .i64 a1_0,(.slice A1_1 l1_1.length c1_1)] 30 (0,0)))∧Aside0 (Below w.heap.size w w'))
 case atStart => exact ⟨(y185),(0),(by first|rfl|(simp;done)|(simp [*];done)),H',⟨Nat.le_refl _⟩,⟨by (with_reducible repeat (first|apply Kd.R_alloc|apply Kd.R_drewN|apply Kd.R_drew));exact HO187.out⟩,⟨by (with_reducible repeat (first|refine blk_drewN ?_ _|refine blk_drew ?_|refine blk_alloc ?_ _));exact BK184.out⟩,⟨by repeat (first|(with_reducible first|exact HB.out|apply below_alloc|apply pw_below_drewN|apply below_drew1|refine below_set ?_ GE184.out)|exact HB.out)⟩⟩
 case round =>
  clear H'
  try clear c1
  try clear p2
  obtain ⟨x6_1,x7_1,rfl,HA,HK1,HO_6,BK184,HB⟩:=hrel
  cases gk with
  | zero => exact absurd HA.out (by simp [impl_starts.l0])
  | succ k1 =>
   have H:=HA.out
   clear HA
   simp only [impl_starts.l0] at H
   replace H:=Option.bind_eq_some_iff.mp H
   obtain ⟨t188,A60,H⟩:=H
   try dsimp only at H
   have A6:=Aside0.mk A60
   clear A60
   by_cases c7 : x7_1 < t188
   ·rw [if_pos c7] at H
    have c7b0 : decide (x7_1 < t188) = true:=decide_eq_true c7
    clear c7
    by_cases c8 : 0 ≤ x7_1
    ·rw [if_pos c8] at H
     have c8b0 : decide (0 ≤ x7_1) = true:=decide_eq_true c8
     clear c8
     by_cases c9 : x7_1 < (l1_1.length : Int)
     ·rw [if_pos c9] at H
      have c9b0 : decide (x7_1 < (l1_1.length : Int)) = true:=decide_eq_true c9
      clear c9
      replace H:=Option.bind_eq_some_iff.mp H
      obtain ⟨t190,A100,H⟩:=H
      try dsimp only at H
      have A10:=Aside0.mk A100
      clear A100
      replace H:=Option.bind_eq_some_iff.mp H
      obtain ⟨t191,A110,H⟩:=H
      try dsimp only at H
      have A11:=Aside0.mk A110
      clear A110
      by_cases c12 : t191 = true
      ·subst c12
       have H1:=H;rw [if_pos rfl] at H1
       clear H
       have H:=H1
       clear H1
       by_cases c13 : x6_1.length < 17592186044416
       ·rw [if_pos c13] at H
        have LMc13:=Aside0.mk c13
        clear c13
        obtain ⟨y192,hy192⟩ : ∃ y_ : List Int,y_ = (x6_1 ++ [x7_1]):=⟨_,rfl⟩
        replace H : (if 0 ≤ (wrap64 (Int.tdiv (rd l1_1 x7_1) 4)) then (if (wrap64 (Int.tdiv (rd l1_1 x7_1) 4)) < (l0.length : Int) then ((impl_size_int64.f l1_1).bind fun t196 => (if (wrap64 (x7_1 + (wrap64 (1 + ((rdOf ByteArray.empty l0 (wrap64 (Int.tdiv (rd l1_1 x7_1) 4))).size : Int))))) > t196 then (some (([] : List Int),false)) else (impl_starts.l0 k1 l0 y192 (wrap64 (x7_1 + (wrap64 (1 + ((rdOf ByteArray.empty l0 (wrap64 (Int.tdiv (rd l1_1 x7_1) 4))).size : Int))))) a1_0 l1_1))) else (none)) else (none)) = some (r1,r2):=by first|(rw [hy192];with_reducible exact H)|(have H2_:=(Option.bind_some _ _).symm.trans H;rw [hy192];with_reducible exact H2_)|(have H2_:=(Option.bind_some _ _).symm.trans H;with_reducible exact H2_)|with_reducible exact H|(rw [hy192];exact H)|exact H
        have Ny192:=Aside0.mk hy192
        clear hy192
        obtain ⟨ji14,hji14⟩ : ∃ j_ : Int,(wrap64 (Int.tdiv (rd l1_1 x7_1) 4)) = j_:=⟨_,rfl⟩
        replace H : (if 0 ≤ (ji14) then (if (ji14) < (l0.length : Int) then ((impl_size_int64.f l1_1).bind fun t196 => (if (wrap64 (x7_1 + (wrap64 (1 + ((rdOf ByteArray.empty l0 (ji14)).size : Int))))) > t196 then (some (([] : List Int),false)) else (impl_starts.l0 k1 l0 y192 (wrap64 (x7_1 + (wrap64 (1 + ((rdOf ByteArray.empty l0 (ji14)).size : Int))))) a1_0 l1_1))) else (none)) else (none)) = some (r1,r2):=by first|(rw [hji14] at H;exact H)|(simp only [hji14] at H ⊢;exact H)
        (try rw [hji14] at A6)
        (try rw [hji14] at A10)
        (try rw [hji14] at A11)
        have hji14w : (IntKind.i64.wrap (Int.tdiv (rd l1_1 x7_1) 4)) = ji14:=(i64_w _).trans hji14
        by_cases c15 : 0 ≤ (ji14)
        ·rw [if_pos c15] at H
         have c15b0 : decide (0 ≤ (ji14)) = true:=decide_eq_true c15
         clear c15
         by_cases c16 : (ji14) < (l0.length : Int)
         ·rw [if_pos c16] at H
          have c16b0 : decide ((ji14) < (l0.length : Int)) = true:=decide_eq_true c16
          clear c16
          replace H:=Option.bind_eq_some_iff.mp H
          obtain ⟨t196,A170,H⟩:=H
          try dsimp only at H
          have A17:=Aside0.mk A170
          clear A170
          by_cases c18 : (wrap64 (x7_1 + (wrap64 (1 + ((rdOf ByteArray.empty l0 (ji14)).size : Int))))) > t196
          ·rw [if_pos c18] at H
           have c18b0 : decide (t196 < (wrap64 (x7_1 + (wrap64 (1 + ((rdOf ByteArray.empty l0 (ji14)).size : Int)))))) = true:=decide_eq_true c18
           clear c18
           simp only [Option.some.injEq,Prod.mk.injEq] at H
           obtain ⟨rfl,rfl⟩:=H
           have hcz19_0 : wr.cell? ⟨gb184,0,none⟩ = some (.int .i64 a1_0):=(blk_cell BK184.out 0).trans rfl
           have hcz19_1 : wr.cell? ⟨gb184,1,none⟩ = some (.slice A1_1 l1_1.length c1_1):=(blk_cell BK184.out 1).trans rfl
           have hfz19_0:=blk_frozen BK184.out 0
           have hfz19_1:=blk_frozen BK184.out 1
           go_wp2_with (first|((with_reducible refine gate_callee (f:=71) rfl ?_);refine goesL_ (some 13) rfl rfl Tryd.func71 (by kernel_rfl) rfl #[.slice A1_1 l1_1.length c1_1] rfl (by (try simp only [List.map_toArray,List.map_cons,List.map_nil]);first|done|rfl|(simp only [List.length_drop,List.length_take];rfl)) ?_;(with_reducible refine (impl_size_int64.calls _ _ l1_1 t188 _ ?side1 ?side2 A6.out).mono ?_);(case side1 => repeat (first|exact (Kd.C_below HR1_1.out HB.out)|(with_reducible first|refine Kd.C_alloc ?_ _|refine Kd.C_drewN ?_ _|refine Kd.C_drew ?_)));(case side2 => exact HC1_1.out);rintro e w' ⟨rfl,⟨nd,rfl⟩⟩;refine ⟨_,rfl,?_⟩;have p189 : 0 ≤ (x7_1 : Int):=of_decide_eq_true (by first|(with_reducible assumption)|assumption);have q189 : x7_1 < (l1_1.length : Int):=of_decide_eq_true (by first|(with_reducible assumption)|assumption);obtain ⟨ad189,e189,hx189_0⟩:=Kd.at_int HR1_1.out x7_1 p189 q189;cases e189;replace hx189_0:=(HB.out.cell (World.block_lt_of_cell? w _ hx189_0)).trans hx189_0;replace p189:=eq_true p189;replace q189:=eq_true q189)|((with_reducible refine gate_callee (f:=70) rfl ?_);refine goesL_ (some 22) rfl rfl Tryd.func70 (by kernel_rfl) rfl #[.slice A0 l0.length c0] rfl (by (try simp only [List.map_toArray,List.map_cons,List.map_nil]);first|done|rfl|(simp only [List.length_drop,List.length_take];rfl)) ?_;(with_reducible refine (impl_size_string.calls _ _ l0 t190 _ ?side1 ?side2 A10.out).mono ?_);(case side1 => repeat (first|exact (Kd.C_below HR0.out (by repeat (first|(with_reducible first|exact HB.out|apply below_alloc|apply pw_below_drewN|apply below_drew1|refine below_set ?_ GE184.out)|exact HB.out)))|(with_reducible first|refine Kd.C_alloc ?_ _|refine Kd.C_drewN ?_ _|refine Kd.C_drew ?_)));(case side2 => exact HC0.out);rintro e w' ⟨rfl,⟨nd,rfl⟩⟩;refine ⟨_,rfl,?_⟩)|((with_reducible refine gate_callee (f:=69) rfl ?_);refine goesL_ (some 25) rfl rfl Tryd.func69 (by kernel_rfl) rfl #[.int .i64 (rd l1_1 x7_1),.int .i64 0,.int .i64 (wrap64 ((wrap64 (4 * t190)) - 1))] rfl (by (try simp only [List.map_toArray,List.map_cons,List.map_nil]);first|done|rfl|(simp only [List.length_drop,List.length_take];rfl)) ?_;(with_reducible refine (impl_within.calls (rd l1_1 x7_1) 0 (wrap64 ((wrap64 (4 * t190)) - 1)) true _ A11.out).mono ?_);rintro e w' ⟨rfl,⟨nd,rfl⟩⟩;refine ⟨_,rfl,?_⟩)|((with_reducible refine gate_builtin (b:=.append) (xs:=#[.tmp 27,.tmp 29]) rfl ?_);at_builtin;refine Kd.R_append (Kd.int .i64) (w0:=w) w.heap.size rfl (.tmp 27) (.tmp 29) 23 2 (.int .i64 0) 8 rfl Tryd.underlying23 info2 rfl (by decide) (by omega) u6 x6_1 x7_1 [.int .i64 x7_1] (fun _ => True) (fun _ => False) rfl rfl ?aP (fun _ hk => hk.elim) ?aF ?aO ?aB ?aS ?aL ?_;(case aP => exact rfl);(case aB => exact (by repeat (first|(with_reducible first|exact HB.out|apply below_alloc|apply pw_below_drewN|apply below_drew1|refine below_set ?_ GE184.out)|exact HB.out)));(case aF => exact (fun _ _ => trivial));(case aO => exact (by (with_reducible repeat (first|apply Kd.R_alloc|apply Kd.R_drewN|apply Kd.R_drew));exact HO_6.out));(case aS => exact (below_size (by repeat (first|(with_reducible first|exact HB.out|apply below_alloc|apply pw_below_drewN|apply below_drew1|refine below_set ?_ GE184.out)|exact HB.out))));(case aL => have:=LMc13.out;omega);intro v193 w20 ho hb hg hat;rw [← Ny192.out] at ho;have n0_:=Aside0.mk (blk_grown (g:=gb184) (o:=.cells #[.int .i64 a1_0,.slice (some ad189) l1_1.length c1_1] 30 (0,0)) (by (with_reducible repeat (first|refine blk_drewN ?_ _|refine blk_drew ?_|refine blk_alloc ?_ _));exact BK184.out) hg (Kd.R_ne HO_6.out BK184.out (by decide)));have n1_:=Aside0.mk (hb);have n2_:=Aside0.mk (ho);clear BK184 HB HO_6;have BK184:=n0_;have HB:=n1_;have HO194:=n2_;clear n0_ n1_ n2_;clear ho hb hg hat;have p195 : 0 ≤ ((ji14) : Int):=of_decide_eq_true (by first|(with_reducible assumption)|assumption);have q195 : (ji14) < (l0.length : Int):=of_decide_eq_true (by first|(with_reducible assumption)|assumption);obtain ⟨ad195,e195,hx195_0⟩:=Kd.at_string HR0.out (ji14) p195 q195;cases e195;replace hx195_0:=(HB.out.cell (World.block_lt_of_cell? w _ hx195_0)).trans hx195_0;replace p195:=eq_true p195;replace q195:=eq_true q195;have hcz21_0 : w20.cell? ⟨gb184,0,none⟩ = some (.int .i64 a1_0):=(blk_cell BK184.out 0).trans rfl;have hcz21_1 : w20.cell? ⟨gb184,1,none⟩ = some (.slice (some ad189) l1_1.length c1_1):=(blk_cell BK184.out 1).trans rfl;have hfz21_0:=blk_frozen BK184.out 0;have hfz21_1:=blk_frozen BK184.out 1)|((with_reducible refine gate_callee (f:=71) rfl ?_);refine goesL_ (some 43) rfl rfl Tryd.func71 (by kernel_rfl) rfl #[.slice (some ad189) l1_1.length c1_1] rfl (by (try simp only [List.map_toArray,List.map_cons,List.map_nil]);first|done|rfl|(simp only [List.length_drop,List.length_take];rfl)) ?_;(with_reducible refine (impl_size_int64.calls _ _ l1_1 t196 _ ?side1 ?side2 A17.out).mono ?_);(case side1 => repeat (first|exact (Kd.C_below HR1_1.out HB.out)|(with_reducible first|refine Kd.C_alloc ?_ _|refine Kd.C_drewN ?_ _|refine Kd.C_drew ?_)));(case side2 => exact HC1_1.out);rintro e w' ⟨rfl,⟨nd,rfl⟩⟩;refine ⟨_,rfl,?_⟩))
           go_ret2
           exact ⟨_,by first|rfl|(simp [errW_none,errW_some] <;> rfl)|(simp only [← hji14];first|rfl|(simp [errW_none,errW_some] <;> rfl))|(simp [*,errW_none,errW_some] <;> rfl),by first|exact Kd.R_nil _ _ _ _ _|exact Kd.N_nil _ _ _ _ _|exact Kd.V_nil _ _ _ _ _|exact Kd.Q_nil _ _ _ _ _|exact Kd.S_nil _ _ _ _ _,by repeat (first|(with_reducible first|exact HB.out|apply below_alloc|apply pw_below_drewN|apply below_drew1|refine below_set ?_ GE184.out)|exact HB.out)⟩
          ·rw [if_neg c18] at H
           have c18b0 : decide (t196 < (wrap64 (x7_1 + (wrap64 (1 + ((rdOf ByteArray.empty l0 (ji14)).size : Int)))))) = false:=decide_eq_false c18
           clear c18
           have H':=Aside0.mk H
           clear H
           have hcz22_0 : wr.cell? ⟨gb184,0,none⟩ = some (.int .i64 a1_0):=(blk_cell BK184.out 0).trans rfl
           have hcz22_1 : wr.cell? ⟨gb184,1,none⟩ = some (.slice A1_1 l1_1.length c1_1):=(blk_cell BK184.out 1).trans rfl
           have hfz22_0:=blk_frozen BK184.out 0
           have hfz22_1:=blk_frozen BK184.out 1
           go_wp2_with (first|((with_reducible refine gate_callee (f:=71) rfl ?_);refine goesL_ (some 13) rfl rfl Tryd.func71 (by kernel_rfl) rfl #[.slice A1_1 l1_1.length c1_1] rfl (by (try simp only [List.map_toArray,List.map_cons,List.map_nil]);first|done|rfl|(simp only [List.length_drop,List.length_take];rfl)) ?_;(with_reducible refine (impl_size_int64.calls _ _ l1_1 t188 _ ?side1 ?side2 A6.out).mono ?_);(case side1 => repeat (first|exact (Kd.C_below HR1_1.out HB.out)|(with_reducible first|refine Kd.C_alloc ?_ _|refine Kd.C_drewN ?_ _|refine Kd.C_drew ?_)));(case side2 => exact HC1_1.out);rintro e w' ⟨rfl,⟨nd,rfl⟩⟩;refine ⟨_,rfl,?_⟩;have p189 : 0 ≤ (x7_1 : Int):=of_decide_eq_true (by first|(with_reducible assumption)|assumption);have q189 : x7_1 < (l1_1.length : Int):=of_decide_eq_true (by first|(with_reducible assumption)|assumption);obtain ⟨ad189,e189,hx189_0⟩:=Kd.at_int HR1_1.out x7_1 p189 q189;cases e189;replace hx189_0:=(HB.out.cell (World.block_lt_of_cell? w _ hx189_0)).trans hx189_0;replace p189:=eq_true p189;replace q189:=eq_true q189)|((with_reducible refine gate_callee (f:=70) rfl ?_);refine goesL_ (some 22) rfl rfl Tryd.func70 (by kernel_rfl) rfl #[.slice A0 l0.length c0] rfl (by (try simp only [List.map_toArray,List.map_cons,List.map_nil]);first|done|rfl|(simp only [List.length_drop,List.length_take];rfl)) ?_;(with_reducible refine (impl_size_string.calls _ _ l0 t190 _ ?side1 ?side2 A10.out).mono ?_);(case side1 => repeat (first|exact (Kd.C_below HR0.out (by repeat (first|(with_reducible first|exact HB.out|apply below_alloc|apply pw_below_drewN|apply below_drew1|refine below_set ?_ GE184.out)|exact HB.out)))|(with_reducible first|refine Kd.C_alloc ?_ _|refine Kd.C_drewN ?_ _|refine Kd.C_drew ?_)));(case side2 => exact HC0.out);rintro e w' ⟨rfl,⟨nd,rfl⟩⟩;refine ⟨_,rfl,?_⟩)|((with_reducible refine gate_callee (f:=69) rfl ?_);refine goesL_ (some 25) rfl rfl Tryd.func69 (by kernel_rfl) rfl #[.int .i64 (rd l1_1 x7_1),.int .i64 0,.int .i64 (wrap64 ((wrap64 (4 * t190)) - 1))] rfl (by (try simp only [List.map_toArray,List.map_cons,List.map_nil]);first|done|rfl|(simp only [List.length_drop,List.length_take];rfl)) ?_;(with_reducible refine (impl_within.calls (rd l1_1 x7_1) 0 (wrap64 ((wrap64 (4 * t190)) - 1)) true _ A11.out).mono ?_);rintro e w' ⟨rfl,⟨nd,rfl⟩⟩;refine ⟨_,rfl,?_⟩)|((with_reducible refine gate_builtin (b:=.append) (xs:=#[.tmp 27,.tmp 29]) rfl ?_);at_builtin;refine Kd.R_append (Kd.int .i64) (w0:=w) w.heap.size rfl (.tmp 27) (.tmp 29) 23 2 (.int .i64 0) 8 rfl Tryd.underlying23 info2 rfl (by decide) (by omega) u6 x6_1 x7_1 [.int .i64 x7_1] (fun _ => True) (fun _ => False) rfl rfl ?aP (fun _ hk => hk.elim) ?aF ?aO ?aB ?aS ?aL ?_;(case aP => exact rfl);(case aB => exact (by repeat (first|(with_reducible first|exact HB.out|apply below_alloc|apply pw_below_drewN|apply below_drew1|refine below_set ?_ GE184.out)|exact HB.out)));(case aF => exact (fun _ _ => trivial));(case aO => exact (by (with_reducible repeat (first|apply Kd.R_alloc|apply Kd.R_drewN|apply Kd.R_drew));exact HO_6.out));(case aS => exact (below_size (by repeat (first|(with_reducible first|exact HB.out|apply below_alloc|apply pw_below_drewN|apply below_drew1|refine below_set ?_ GE184.out)|exact HB.out))));(case aL => have:=LMc13.out;omega);intro v193 w23 ho hb hg hat;rw [← Ny192.out] at ho;have n0_:=Aside0.mk (blk_grown (g:=gb184) (o:=.cells #[.int .i64 a1_0,.slice (some ad189) l1_1.length c1_1] 30 (0,0)) (by (with_reducible repeat (first|refine blk_drewN ?_ _|refine blk_drew ?_|refine blk_alloc ?_ _));exact BK184.out) hg (Kd.R_ne HO_6.out BK184.out (by decide)));have n1_:=Aside0.mk (hb);have n2_:=Aside0.mk (ho);clear BK184 HB HO_6;have BK184:=n0_;have HB:=n1_;have HO194:=n2_;clear n0_ n1_ n2_;clear ho hb hg hat;have p195 : 0 ≤ ((ji14) : Int):=of_decide_eq_true (by first|(with_reducible assumption)|assumption);have q195 : (ji14) < (l0.length : Int):=of_decide_eq_true (by first|(with_reducible assumption)|assumption);obtain ⟨ad195,e195,hx195_0⟩:=Kd.at_string HR0.out (ji14) p195 q195;cases e195;replace hx195_0:=(HB.out.cell (World.block_lt_of_cell? w _ hx195_0)).trans hx195_0;replace p195:=eq_true p195;replace q195:=eq_true q195;have hcz24_0 : w23.cell? ⟨gb184,0,none⟩ = some (.int .i64 a1_0):=(blk_cell BK184.out 0).trans rfl;have hcz24_1 : w23.cell? ⟨gb184,1,none⟩ = some (.slice (some ad189) l1_1.length c1_1):=(blk_cell BK184.out 1).trans rfl;have hfz24_0:=blk_frozen BK184.out 0;have hfz24_1:=blk_frozen BK184.out 1)|((with_reducible refine gate_callee (f:=71) rfl ?_);refine goesL_ (some 43) rfl rfl Tryd.func71 (by kernel_rfl) rfl #[.slice (some ad189) l1_1.length c1_1] rfl (by (try simp only [List.map_toArray,List.map_cons,List.map_nil]);first|done|rfl|(simp only [List.length_drop,List.length_take];rfl)) ?_;(with_reducible refine (impl_size_int64.calls _ _ l1_1 t196 _ ?side1 ?side2 A17.out).mono ?_);(case side1 => repeat (first|exact (Kd.C_below HR1_1.out HB.out)|(with_reducible first|refine Kd.C_alloc ?_ _|refine Kd.C_drewN ?_ _|refine Kd.C_drew ?_)));(case side2 => exact HC1_1.out);rintro e w' ⟨rfl,⟨nd,rfl⟩⟩;refine ⟨_,rfl,?_⟩))
           go_roundg k1
           case measure => have:=HK1.out;omega
           case rel => exact ⟨(y192),(wrap64 (x7_1 + (wrap64 (1 + ((rdOf ByteArray.empty l0 (ji14)).size : Int))))),(by first|rfl|(simp;done)|(simp only [← hji14] <;> (first|rfl|simp))|(simp [*];done)),H',⟨by have:=HK1.out;omega⟩,⟨by (with_reducible repeat (first|apply Kd.R_alloc|apply Kd.R_drewN|apply Kd.R_drew));exact HO194.out⟩,⟨by (with_reducible repeat (first|refine blk_drewN ?_ _|refine blk_drew ?_|refine blk_alloc ?_ _));exact BK184.out⟩,⟨by repeat (first|(with_reducible first|exact HB.out|apply below_alloc|apply pw_below_drewN|apply below_drew1|refine below_set ?_ GE184.out)|exact HB.out)⟩⟩
         ·rw [if_neg c16] at H
          exact absurd H (by simp)
        ·rw [if_neg c15] at H
         exact absurd H (by simp)
       ·rw [if_neg c13] at H
        exact absurd H (by simp)
      ·replace c12:=Bool.eq_false_iff.mpr c12
       subst c12
       have H1 : (some (([] : List Int),false)) = some (r1,r2):=by rw [if_neg (show ¬ (false = true) by decide)] at H;exact H
       clear H
       have H:=H1
       clear H1
       simp only [Option.some.injEq,Prod.mk.injEq] at H
       obtain ⟨rfl,rfl⟩:=H
       have hcz25_0 : wr.cell? ⟨gb184,0,none⟩ = some (.int .i64 a1_0):=(blk_cell BK184.out 0).trans rfl
       have hcz25_1 : wr.cell? ⟨gb184,1,none⟩ = some (.slice A1_1 l1_1.length c1_1):=(blk_cell BK184.out 1).trans rfl
       have hfz25_0:=blk_frozen BK184.out 0
       have hfz25_1:=blk_frozen BK184.out 1
       go_wp2_with (first|((with_reducible refine gate_callee (f:=71) rfl ?_);refine goesL_ (some 13) rfl rfl Tryd.func71 (by kernel_rfl) rfl #[.slice A1_1 l1_1.length c1_1] rfl (by (try simp only [List.map_toArray,List.map_cons,List.map_nil]);first|done|rfl|(simp only [List.length_drop,List.length_take];rfl)) ?_;(with_reducible refine (impl_size_int64.calls _ _ l1_1 t188 _ ?side1 ?side2 A6.out).mono ?_);(case side1 => repeat (first|exact (Kd.C_below HR1_1.out HB.out)|(with_reducible first|refine Kd.C_alloc ?_ _|refine Kd.C_drewN ?_ _|refine Kd.C_drew ?_)));(case side2 => exact HC1_1.out);rintro e w' ⟨rfl,⟨nd,rfl⟩⟩;refine ⟨_,rfl,?_⟩;have p189 : 0 ≤ (x7_1 : Int):=of_decide_eq_true (by first|(with_reducible assumption)|assumption);have q189 : x7_1 < (l1_1.length : Int):=of_decide_eq_true (by first|(with_reducible assumption)|assumption);obtain ⟨ad189,e189,hx189_0⟩:=Kd.at_int HR1_1.out x7_1 p189 q189;cases e189;replace hx189_0:=(HB.out.cell (World.block_lt_of_cell? w _ hx189_0)).trans hx189_0;replace p189:=eq_true p189;replace q189:=eq_true q189)|((with_reducible refine gate_callee (f:=70) rfl ?_);refine goesL_ (some 22) rfl rfl Tryd.func70 (by kernel_rfl) rfl #[.slice A0 l0.length c0] rfl (by (try simp only [List.map_toArray,List.map_cons,List.map_nil]);first|done|rfl|(simp only [List.length_drop,List.length_take];rfl)) ?_;(with_reducible refine (impl_size_string.calls _ _ l0 t190 _ ?side1 ?side2 A10.out).mono ?_);(case side1 => repeat (first|exact (Kd.C_below HR0.out (by repeat (first|(with_reducible first|exact HB.out|apply below_alloc|apply pw_below_drewN|apply below_drew1|refine below_set ?_ GE184.out)|exact HB.out)))|(with_reducible first|refine Kd.C_alloc ?_ _|refine Kd.C_drewN ?_ _|refine Kd.C_drew ?_)));(case side2 => exact HC0.out);rintro e w' ⟨rfl,⟨nd,rfl⟩⟩;refine ⟨_,rfl,?_⟩)|((with_reducible refine gate_callee (f:=69) rfl ?_);refine goesL_ (some 25) rfl rfl Tryd.func69 (by kernel_rfl) rfl #[.int .i64 (rd l1_1 x7_1),.int .i64 0,.int .i64 (wrap64 ((wrap64 (4 * t190)) - 1))] rfl (by (try simp only [List.map_toArray,List.map_cons,List.map_nil]);first|done|rfl|(simp only [List.length_drop,List.length_take];rfl)) ?_;(with_reducible refine (impl_within.calls (rd l1_1 x7_1) 0 (wrap64 ((wrap64 (4 * t190)) - 1)) false _ A11.out).mono ?_);rintro e w' ⟨rfl,⟨nd,rfl⟩⟩;refine ⟨_,rfl,?_⟩))
       go_ret2
       exact ⟨_,by first|rfl|(simp [errW_none,errW_some] <;> rfl)|(simp [*,errW_none,errW_some] <;> rfl),by first|exact Kd.R_nil _ _ _ _ _|exact Kd.N_nil _ _ _ _ _|exact Kd.V_nil _ _ _ _ _|exact Kd.Q_nil _ _ _ _ _|exact Kd.S_nil _ _ _ _ _,by repeat (first|(with_reducible first|exact HB.out|apply below_alloc|apply pw_below_drewN|apply below_drew1|refine below_set ?_ GE184.out)|exact HB.out)⟩
     ·rw [if_neg c9] at H
      exact absurd H (by simp)
    ·rw [if_neg c8] at H
     exact absurd H (by simp)
   ·rw [if_neg c7] at H
    have c7b0 : decide (x7_1 < t188) = false:=decide_eq_false c7
    clear c7
    simp only [Option.some.injEq,Prod.mk.injEq] at H
    obtain ⟨rfl,rfl⟩:=H
    have hcz26_0 : wr.cell? ⟨gb184,0,none⟩ = some (.int .i64 a1_0):=(blk_cell BK184.out 0).trans rfl
    have hcz26_1 : wr.cell? ⟨gb184,1,none⟩ = some (.slice A1_1 l1_1.length c1_1):=(blk_cell BK184.out 1).trans rfl
    have hfz26_0:=blk_frozen BK184.out 0
    have hfz26_1:=blk_frozen BK184.out 1
    go_wp2_with (first|((with_reducible refine gate_callee (f:=71) rfl ?_);refine goesL_ (some 13) rfl rfl Tryd.func71 (by kernel_rfl) rfl #[.slice A1_1 l1_1.length c1_1] rfl (by (try simp only [List.map_toArray,List.map_cons,List.map_nil]);first|done|rfl|(simp only [List.length_drop,List.length_take];rfl)) ?_;(with_reducible refine (impl_size_int64.calls _ _ l1_1 t188 _ ?side1 ?side2 A6.out).mono ?_);(case side1 => repeat (first|exact (Kd.C_below HR1_1.out HB.out)|(with_reducible first|refine Kd.C_alloc ?_ _|refine Kd.C_drewN ?_ _|refine Kd.C_drew ?_)));(case side2 => exact HC1_1.out);rintro e w' ⟨rfl,⟨nd,rfl⟩⟩;refine ⟨_,rfl,?_⟩))
    go_ret2
    exact ⟨_,by first|rfl|(simp [errW_none,errW_some] <;> rfl)|(simp [*,errW_none,errW_some] <;> rfl),by (with_reducible repeat (first|apply Kd.R_alloc|apply Kd.R_drewN|apply Kd.R_drew));exact HO_6.out,by repeat (first|(with_reducible first|exact HB.out|apply below_alloc|apply pw_below_drewN|apply below_drew1|refine below_set ?_ GE184.out)|exact HB.out)⟩

end Go.Proofs.YtgfeafcgpeclcaaDoor.X
namespace Go.Proofs.YtgfeafcgpeclcaaDoor.X
open Go.RowKit Go.Proofs.YtgfeafcgpeclcaaDoorW.PrintWords Go.Proofs.YtgfeafcgpeclcaaDoorW.PrintLast Go.Proofs.YtgfeafcgpeclcaaDoorW.PrintMore
attribute [local go_sem] max2_int min2_int max_two min_two max_three min_three max_four min_four   -- for this text's walks alone
set_option linter.unusedVariables false
set_option linter.unusedSimpArgs false

/-! ### impl_isObject: function 94 -/

def objL (hf : Int → Option Bool) (t : ByteArray) : Nat → List Int → Option Bool
 | _,[] => some true
 | i,v :: l => if bt t (i : Int) = 114 then (hf v).bind fun b => if b = true then objL hf t (i + 1) l else some false else objL hf t (i + 1) l
theorem objL_mono {hf hf' : Int → Option Bool} (h : ∀ x, LeO (hf x) (hf' x)) (t : ByteArray) : ∀ (l : List Int) (i : Nat), LeO (objL hf t i l) (objL hf' t i l)
 | [],i => LeO.refl _
 | v :: l,i => by
  rw [objL,objL]
  exact LeO.ite (LeO.bind (h v) fun _ => LeO.ite (objL_mono h t l (i + 1)) (LeO.refl _)) (objL_mono h t l (i + 1))
def isObjF (hf : Int → Option Bool) (types : List ByteArray) (ty : Int) (vals : List Int) : Option Bool :=
 if 0 ≤ ty∧ty < types.length then (if vals.length = (rdOf ByteArray.empty types ty).size then objL hf (rdOf ByteArray.empty types ty) 0 vals else some false) else some false
theorem isObjF_mono {hf hf' : Int → Option Bool} (h : ∀ x, LeO (hf x) (hf' x)) (types : List ByteArray) (ty : Int) (vals : List Int) : LeO (isObjF hf types ty vals) (isObjF hf' types ty vals) :=
 LeO.ite (LeO.ite (objL_mono h _ _ _) (LeO.refl _)) (LeO.refl _)
set_option maxHeartbeats 4000000 in
set_option maxRecDepth 100000 in
theorem isObject_walk (c : Nat) (caps : Array Value) (hf : Int → Option Bool) (A0 : Option Addr) (c0 : Nat) (l0 : List ByteArray) (ty : Int) (A1 : Option Addr) (c1 : Nat) (l1 : List Int) (r : Bool) (w : World) (hr0 : Kd.C Kd.string w A0 l0.length l0) (hc0 : l0.length ≤ c0) (hr1 : Kd.C (Kd.int .i64) w A1 l1.length l1) (hc1 : l1.length ≤ c1)
  (hen : ∀ args W,(callFunc c args).run Tryd.prog W = .ok (.enter c args) W) (hcall : ∀ (W : World) (x : Int) (b : Bool),Below w.heap.size w W → hf x = some b → Calls Tryd.prog c (#[.int .i64 x] ++ caps) W fun e w' => e = .returned (.bool b)∧Below W.heap.size W w') (h : isObjF hf l0 ty l1 = some r) :
  Calls Tryd.prog 94 #[.slice A0 l0.length c0,.agg #[.int .i64 ty,.slice A1 l1.length c1],.func (.func c) #[] caps] w fun e w' => e = .returned (.bool r)∧Below w.heap.size w w':=by
 have HR0:=Lib.hid hr0
 have HR1:=Lib.hid hr1
 have HC:=Lib.hid hcall
 have hlen0 : l0.length ≤ 9223372036854775807:=hr0.2.1
 have hlen1 : l1.length ≤ 9223372036854775807:=hr1.2.1
 clear hr0 hr1 hcall
 unfold isObjF at h
 have w1_ : IntKind.i64.wrap ((l0.length : Int) - 1) = (l0.length : Int) - 1:=by rw [IntKind.wrap_i64];omega
 have hb:=Lib.hid (below_alloc (Below.refl w.heap.size w) (.cells #[.int .i64 ty,.slice A1 l1.length c1] 40))
 have hsz1:=Lib.hid (fun (W : World) (hW : Below w.heap.size w W) => impl_size_string.calls A0 c0 l0 (l0.length : Int) W (Kd.C_below HR0.out hW) hc0 rfl)
 have hkeep:=Lib.hid (fun (W : World) (hW : W.heap = (w.alloc (.cells #[.int .i64 ty,.slice A1 l1.length c1] 40)).heap) => (show W.cell? ⟨w.heap.size,0,none⟩ = some (.int .i64 ty)∧W.cell? ⟨w.heap.size,1,none⟩ = some (.slice A1 l1.length c1) from by
  have hh:=heap_alloc_new w (.cells #[.int .i64 ty,.slice A1 l1.length c1] 40)
  rw [← hW] at hh
  simp only [World.cell?,hh]
  exact ⟨rfl,rfl⟩))
 by_cases e0 : 0 ≤ ty∧ty < l0.length
 ·rw [if_pos e0] at h
  obtain ⟨ad,rfl,hcT⟩:=Kd.at_string HR0.out ty e0.1 e0.2
  have hT:=Lib.hid (fun (W : World) (hW : Below w.heap.size w W) => ((hW.cell (World.block_lt_of_cell? w _ hcT)).trans hcT))
  have hwi : impl_within.f ty 0 ((l0.length : Int) - 1) = some true:=by
   unfold impl_within.f
   rw [if_pos e0.1,decide_eq_true (by omega)]
  have hwi1:=Lib.hid (fun (W : World) => impl_within.calls ty 0 ((l0.length : Int) - 1) true W hwi)
  have p1_:=eq_true e0.1
  have p2_:=eq_true e0.2
  clear hwi hcT
  generalize rdOf ByteArray.empty l0 ty = t at *
  by_cases e1 : l1.length = t.size
  ·rw [if_pos e1] at h
   have HH:=Lib.hid h
   have HE:=Lib.hid e1
   have e2 : ((l1.length : Int) == (t.size : Int)) = true:=by rw [beq_iff_eq];omega
   have e3 : ((l1.length : Int) != (t.size : Int)) = false:=by rw [bne,e2];rfl
   have e4 : decide ((l1.length : Int) = (t.size : Int)) = true:=by rw [decide_eq_true_iff];omega
   clear h e1
   go_enter Tryd.func94,Tryd.ntmps94
   go_wp2
   refine start_ (n:=19) (S:=fun w' => w'.cell? ⟨w.heap.size,0,none⟩ = some (.int .i64 ty)∧w'.cell? ⟨w.heap.size,1,none⟩ = some (.slice A1 l1.length c1)∧w'.cell? (ad.add ty.toNat) = some (.string t)) (ds:=[]) #[false,false,false,false,false,false,false,false,false,false,false,false,false,false,false,false,false,false,false] (by kernel_rfl) rfl rfl ⟨(hkeep.out _ rfl).1,(hkeep.out _ rfl).2,(by first|exact hT.out _ (below_drew1 hb.out)|exact hT.out _ (pw_below_drewN (below_drew1 hb.out) _)|exact hT.out _ (pw_below_drewN (pw_below_drewN (below_drew1 hb.out) _) _)|exact hT.out _ (pw_below_drewN hb.out _))⟩ (fun hHeld => ?_)
   refine pure_ (i:=0) (N:=some 9) (v:=?_) (a':=?_) #[true,false,false,false,false,false,false,false,false,false,false,false,false,false,false,false,false,false,false] rfl rfl (by kernel_rfl) (fun _ _ _ h => h) (Or.inl ⟨by rfl,?_⟩) ?_ ?_
   rotate_left
   ·intro w'
    go_simp
    with_reducible rfl
   rotate_left
   ·simp only [Act.put,List.setIfInBounds_toArray,List.set_cons_zero,List.set_cons_succ,i64_w,i32_w]
    rfl
   refine pure_ (i:=2) (N:=some 11) (v:=?_) (a':=?_) #[true,false,true,false,false,false,false,false,false,false,false,false,false,false,false,false,false,false,false] rfl rfl (by kernel_rfl) (fun _ _ _ h => h) (Or.inl ⟨by rfl,?_⟩) ?_ ?_
   rotate_left
   ·intro w'
    go_simp
    with_reducible rfl
   rotate_left
   ·simp only [Act.put,List.setIfInBounds_toArray,List.set_cons_zero,List.set_cons_succ,i64_w,i32_w]
    rfl
   refine take_ (i:=1) (N:=some 10) (v:=?_) (a':=?_) #[true,true,true,false,false,false,false,false,false,false,false,false,false,false,false,false,false,false,false] rfl rfl (by kernel_rfl) (fun _ _ _ h => h) (Or.inl ⟨by rfl,?_⟩) hHeld ?_ ?_
   rotate_left
   ·rintro w' ⟨s0,s1,s2⟩
    go_simp
    with_reducible rfl
   rotate_left
   ·simp only [Act.put,List.setIfInBounds_toArray,List.set_cons_zero,List.set_cons_succ,i64_w,i32_w]
    rfl
   refine one_ (i:=3) (N:=some 12) #[true,true,true,true,false,false,false,false,false,false,false,false,false,false,false,false,false,false,false] rfl rfl (by kernel_rfl) (by decide) (fun K hK => ?_)
   refine goes_ Tryd.func70 (by kernel_rfl) rfl #[.slice (some ad) l0.length c0] (by rfl) rfl rfl (by simp only [List.map_toArray,List.map_cons,List.map_nil];rfl) ?_
   with_reducible refine (hsz1.out _ (by first|exact below_drew1 hb.out|exact pw_below_drewN hb.out _)).mono ?_
   rintro e w3 ⟨rfl,⟨nd,rfl⟩⟩
   refine ⟨_,rfl,?_⟩
   refine hK.out _ _ ⟨(hkeep.out _ rfl).1,(hkeep.out _ rfl).2,(by first|exact hT.out _ (below_drew1 hb.out)|exact hT.out _ (pw_below_drewN (below_drew1 hb.out) _)|exact hT.out _ (pw_below_drewN (pw_below_drewN (below_drew1 hb.out) _) _)|exact hT.out _ (pw_below_drewN hb.out _))⟩ (fun hHeld => ?_)
   clear hK K
   refine norm_ (a':=?_) ?_ ?_
   rotate_left
   ·show Act.put _ (some 12) _ = _
    simp only [Act.put,List.setIfInBounds_toArray,List.set_cons_zero,List.set_cons_succ,i64_w,i32_w]
    rfl
   refine pure_ (i:=4) (N:=some 13) (v:=?_) (a':=?_) #[true,true,true,true,true,false,false,false,false,false,false,false,false,false,false,false,false,false,false] rfl rfl (by kernel_rfl) (fun _ _ _ h => h) (Or.inl ⟨by rfl,?_⟩) ?_ ?_
   rotate_left
   ·intro w'
    go_simp
    with_reducible rfl
   rotate_left
   ·simp only [Act.put,List.setIfInBounds_toArray,List.set_cons_zero,List.set_cons_succ,i64_w,i32_w]
    rfl
   refine one_ (i:=5) (N:=some 14) #[true,true,true,true,true,true,false,false,false,false,false,false,false,false,false,false,false,false,false] rfl rfl (by kernel_rfl) (by decide) (fun K hK => ?_)
   refine goes_ Tryd.func69 (by kernel_rfl) rfl #[.int .i64 ty,.int .i64 0,.int .i64 ((l0.length : Int) - 1)] (by rfl) rfl rfl (by simp only [List.map_toArray,List.map_cons,List.map_nil];rfl) ?_
   with_reducible refine (hwi1.out _).mono ?_
   rintro e w3 ⟨rfl,⟨nd2,rfl⟩⟩
   refine ⟨_,rfl,?_⟩
   refine hK.out _ _ ⟨(hkeep.out _ rfl).1,(hkeep.out _ rfl).2,(by first|exact hT.out _ (below_drew1 hb.out)|exact hT.out _ (pw_below_drewN (below_drew1 hb.out) _)|exact hT.out _ (pw_below_drewN (pw_below_drewN (below_drew1 hb.out) _) _)|exact hT.out _ (pw_below_drewN hb.out _))⟩ (fun hHeld => ?_)
   clear hK K
   refine norm_ (a':=?_) ?_ ?_
   rotate_left
   ·show Act.put _ (some 14) _ = _
    simp only [Act.put,List.setIfInBounds_toArray,List.set_cons_zero,List.set_cons_succ,i64_w,i32_w]
    rfl
   refine pure_ (i:=6) (N:=some 15) (v:=?_) (a':=?_) #[true,true,true,true,true,true,true,false,false,false,false,false,false,false,false,false,false,false,false] rfl rfl (by kernel_rfl) (fun _ _ _ h => h) (Or.inl ⟨by rfl,?_⟩) ?_ ?_
   rotate_left
   ·intro w'
    go_simp
    with_reducible rfl
   rotate_left
   ·simp only [Act.put,List.setIfInBounds_toArray,List.set_cons_zero,List.set_cons_succ,i64_w,i32_w]
    rfl
   refine pure_ (i:=7) (N:=some 16) (v:=?_) (a':=?_) #[true,true,true,true,true,true,true,true,false,false,false,false,false,false,false,false,false,false,false] rfl rfl (by kernel_rfl) (fun _ _ _ h => h) (Or.inl ⟨by rfl,?_⟩) ?_ ?_
   rotate_left
   ·intro w'
    go_simp
    with_reducible rfl
   rotate_left
   ·simp only [Act.put,List.setIfInBounds_toArray,List.set_cons_zero,List.set_cons_succ,i64_w,i32_w]
    rfl
   refine pure_ (i:=8) (N:=some 17) (v:=?_) (a':=?_) #[true,true,true,true,true,true,true,true,true,false,false,false,false,false,false,false,false,false,false] rfl rfl (by kernel_rfl) (fun _ _ _ h => h) (Or.inl ⟨by rfl,?_⟩) ?_ ?_
   rotate_left
   ·intro w'
    go_simp
    with_reducible rfl
   rotate_left
   ·simp only [Act.put,List.setIfInBounds_toArray,List.set_cons_zero,List.set_cons_succ,i64_w,i32_w]
    rfl
   refine pure_ (i:=11) (N:=some 20) (v:=?_) (a':=?_) #[true,true,true,true,true,true,true,true,true,false,false,true,false,false,false,false,false,false,false] rfl rfl (by kernel_rfl) (fun _ _ _ h => h) (Or.inl ⟨by rfl,?_⟩) ?_ ?_
   rotate_left
   ·intro w'
    go_simp
    with_reducible rfl
   rotate_left
   ·simp only [Act.put,List.setIfInBounds_toArray,List.set_cons_zero,List.set_cons_succ,i64_w,i32_w]
    rfl
   refine pure_ (i:=12) (N:=some 21) (v:=?_) (a':=?_) #[true,true,true,true,true,true,true,true,true,false,false,true,true,false,false,false,false,false,false] rfl rfl (by kernel_rfl) (fun _ _ _ h => h) (Or.inl ⟨by rfl,?_⟩) ?_ ?_
   rotate_left
   ·intro w'
    go_simp
    with_reducible rfl
   rotate_left
   ·simp only [Act.put,List.setIfInBounds_toArray,List.set_cons_zero,List.set_cons_succ,i64_w,i32_w]
    rfl
   refine take_ (i:=9) (N:=some 18) (v:=?_) (a':=?_) #[true,true,true,true,true,true,true,true,true,true,false,true,true,false,false,false,false,false,false] rfl rfl (by kernel_rfl) (fun _ _ _ h => h) (Or.inl ⟨by rfl,?_⟩) hHeld ?_ ?_
   rotate_left
   ·rintro w' ⟨s0,s1,s2⟩
    go_simp
    with_reducible rfl
   rotate_left
   ·simp only [Act.put,List.setIfInBounds_toArray,List.set_cons_zero,List.set_cons_succ,i64_w,i32_w]
    rfl
   refine pure_ (i:=10) (N:=some 19) (v:=?_) (a':=?_) #[true,true,true,true,true,true,true,true,true,true,true,true,true,false,false,false,false,false,false] rfl rfl (by kernel_rfl) (fun _ _ _ h => h) (Or.inl ⟨by rfl,?_⟩) ?_ ?_
   rotate_left
   ·intro w'
    go_simp
    with_reducible rfl
   rotate_left
   ·simp only [Act.put,List.setIfInBounds_toArray,List.set_cons_zero,List.set_cons_succ,i64_w,i32_w]
    rfl
   refine take_ (i:=13) (N:=some 22) (v:=?_) (a':=?_) #[true,true,true,true,true,true,true,true,true,true,true,true,true,true,false,false,false,false,false] rfl rfl (by kernel_rfl) (fun _ _ _ h => h) (Or.inl ⟨by rfl,?_⟩) hHeld ?_ ?_
   rotate_left
   ·rintro w' ⟨s0,s1,s2⟩
    go_simp
    with_reducible rfl
   rotate_left
   ·simp only [Act.put,List.setIfInBounds_toArray,List.set_cons_zero,List.set_cons_succ,i64_w,i32_w]
    rfl
   refine pure_ (i:=14) (N:=some 23) (v:=?_) (a':=?_) #[true,true,true,true,true,true,true,true,true,true,true,true,true,true,true,false,false,false,false] rfl rfl (by kernel_rfl) (fun _ _ _ h => h) (Or.inl ⟨by rfl,?_⟩) ?_ ?_
   rotate_left
   ·intro w'
    go_simp
    with_reducible rfl
   rotate_left
   ·simp only [Act.put,List.setIfInBounds_toArray,List.set_cons_zero,List.set_cons_succ,i64_w,i32_w]
    rfl
   refine take_ (i:=15) (N:=some 24) (v:=?_) (a':=?_) #[true,true,true,true,true,true,true,true,true,true,true,true,true,true,true,true,false,false,false] rfl rfl (by kernel_rfl) (fun _ _ _ h => h) (Or.inl ⟨by rfl,?_⟩) hHeld ?_ ?_
   rotate_left
   ·rintro w' ⟨s0,s1,s2⟩
    go_simp
    with_reducible rfl
   rotate_left
   ·simp only [Act.put,List.setIfInBounds_toArray,List.set_cons_zero,List.set_cons_succ,i64_w,i32_w]
    rfl
   refine pure_ (i:=16) (N:=some 25) (v:=?_) (a':=?_) #[true,true,true,true,true,true,true,true,true,true,true,true,true,true,true,true,true,false,false] rfl rfl (by kernel_rfl) (fun _ _ _ h => h) (Or.inl ⟨by rfl,?_⟩) ?_ ?_
   rotate_left
   ·intro w'
    go_simp
    with_reducible rfl
   rotate_left
   ·simp only [Act.put,List.setIfInBounds_toArray,List.set_cons_zero,List.set_cons_succ,i64_w,i32_w]
    rfl
   refine pure_ (i:=17) (N:=some 26) (v:=?_) (a':=?_) #[true,true,true,true,true,true,true,true,true,true,true,true,true,true,true,true,true,true,false] rfl rfl (by kernel_rfl) (fun _ _ _ h => h) (Or.inl ⟨by rfl,?_⟩) ?_ ?_
   rotate_left
   ·intro w'
    go_simp
    with_reducible rfl
   rotate_left
   ·simp only [Act.put,List.setIfInBounds_toArray,List.set_cons_zero,List.set_cons_succ,i64_w,i32_w]
    rfl
   refine pure_ (i:=18) (N:=some 27) (v:=?_) (a':=?_) #[true,true,true,true,true,true,true,true,true,true,true,true,true,true,true,true,true,true,true] rfl rfl (by kernel_rfl) (fun _ _ _ h => h) (Or.inl ⟨by rfl,?_⟩) ?_ ?_
   rotate_left
   ·intro w'
    go_simp
    with_reducible rfl
   rotate_left
   ·simp only [Act.put,List.setIfInBounds_toArray,List.set_cons_zero,List.set_cons_succ,i64_w,i32_w]
    rfl
   refine done_ (by kernel_rfl) ?_
   go_wp2
   clear e2 e3 e4 hkeep hsz1 hwi1
   go_loopw [31] (fun v wr => ∃ i : Nat,i ≤ l1.length∧v = .int .i64 i∧Hid (objL hf t i (l1.drop i) = some r)∧Hid (wr.heap[w.heap.size]? = some (.cells #[.int .i64 ty,.slice A1 l1.length c1] 40 (0,0)))∧Hid (Below w.heap.size w wr)) (fun v _ => l1.length - (intOf v).toNat)
   case atStart => exact ⟨0,by omega,rfl,Lib.hid (by simpa using HH.out),Lib.hid (heap_alloc_new w _),Lib.hid (by first|exact pw_below_drewN (pw_below_drewN (below_drew1 hb.out) _) _|exact pw_below_drewN hb.out _)⟩
   case round =>
    obtain ⟨i,hi,rfl,HA,hbox,hbw⟩:=hrel
    clear HH
    by_cases hlt : i < l1.length
    ·obtain ⟨ad1,rfl,hcell⟩:=Kd.at_int (Kd.C_below HR1.out hbw.out) (i : Int) (by omega) (by omega)
     rw [Int.toNat_natCast,show rd l1 (i : Int) = l1[i] from by simp [rd,List.getD_eq_getElem?_getD,List.getElem?_eq_getElem hlt]] at hcell
     have hct:=hT.out wr hbw.out
     have hc0_ : wr.cell? ⟨w.heap.size,0,none⟩ = some (.int .i64 ty):=by simp only [World.cell?,hbox.out];rfl
     have hit : i < t.size:=by have:=HE.out;omega
     have hbt : ((t[i]'hit).toNat : Int) = bt t (i : Int):=by simpa using bt_at t (i : Int) (by simpa using hit)
     have ha:=HA.out
     rw [List.drop_eq_getElem_cons hlt,objL] at ha
     have HN:=Lib.hid ha
     clear ha HA
     generalize l1[i] = x at *
     by_cases c1_ : bt t (i : Int) = 114
     ·have hn:=HN.out
      rw [if_pos c1_] at hn
      obtain ⟨b,hx,hn⟩:=Option.bind_eq_some_iff.1 hn
      have hcl:=Lib.hid (fun (W : World) (hW : Below w.heap.size w W) => HC.out W x b hW hx)
      have HN2:=Lib.hid hn
      clear hn HN hx HC
      have c2_ : (bt t (i : Int) == 114) = true:=beq_iff_eq.mpr c1_
      have hen2:=fun W => hen (#[.int .i64 x] ++ caps) W
      cases b with
      | true =>
       have hn:=HN2.out
       rw [if_pos rfl] at hn
       have HN3:=Lib.hid hn
       clear hn HN2
       go_wp2_with (first|(simp only [hen2,Oper.upon_enter];refine (hcl.out _ hbw.out).mono ?_;rintro e w' ⟨rfl,hb2⟩)|(refine (hcl.out _ hbw.out).mono ?_;rintro e w' ⟨rfl,hb2⟩))
       go_roundw
       case rel => exact ⟨i + 1,by omega,by go_num,HN3,Lib.hid ((hb2.block _ (Array.getElem?_eq_some_iff.1 hbox.out).1).trans hbox.out),Lib.hid (below_step hbw.out hb2)⟩
       case measure => simp [intOf];omega
      | false =>
       have hn:=HN2.out
       rw [if_neg (by simp)] at hn
       obtain rfl:=Option.some.inj hn
       clear hn HN2
       go_wp2_with (first|(simp only [hen2,Oper.upon_enter];refine (hcl.out _ hbw.out).mono ?_;rintro e w' ⟨rfl,hb2⟩)|(refine (hcl.out _ hbw.out).mono ?_;rintro e w' ⟨rfl,hb2⟩))
       go_ret
       exact ⟨rfl,below_step hbw.out hb2⟩
     ·have c2_ : (bt t (i : Int) == 114) = false:=beq_eq_false_iff_ne.mpr c1_
      have HN2:=Lib.hid (show objL hf t (i + 1) (l1.drop (i + 1)) = some r from by have hn:=HN.out;rw [if_neg c1_] at hn;exact hn)
      clear HN HC
      go_wp2_with fail
      go_roundw
      case rel => exact ⟨i + 1,by omega,by go_num,HN2,hbox,hbw⟩
      case measure => simp [intOf];omega
    ·have ha:=HA.out
     rw [List.drop_eq_nil_of_le (by omega),objL] at ha
     obtain rfl:=Option.some.inj ha
     clear ha HA
     go_wp2_with fail
     go_ret
     exact ⟨rfl,hbw.out⟩
  ·rw [if_neg e1] at h
   obtain rfl:=Option.some.inj h
   have e2 : ((l1.length : Int) == (t.size : Int)) = false:=by rw [beq_eq_false_iff_ne];omega
   have e3 : ¬ ((l1.length : Int) = (t.size : Int)):=by omega
   clear h
   go_enter Tryd.func94,Tryd.ntmps94
   go_wp2
   refine start_ (n:=19) (S:=fun w' => w'.cell? ⟨w.heap.size,0,none⟩ = some (.int .i64 ty)∧w'.cell? ⟨w.heap.size,1,none⟩ = some (.slice A1 l1.length c1)∧w'.cell? (ad.add ty.toNat) = some (.string t)) (ds:=[]) #[false,false,false,false,false,false,false,false,false,false,false,false,false,false,false,false,false,false,false] (by kernel_rfl) rfl rfl ⟨(hkeep.out _ rfl).1,(hkeep.out _ rfl).2,(by first|exact hT.out _ (below_drew1 hb.out)|exact hT.out _ (pw_below_drewN (below_drew1 hb.out) _)|exact hT.out _ (pw_below_drewN (pw_below_drewN (below_drew1 hb.out) _) _)|exact hT.out _ (pw_below_drewN hb.out _))⟩ (fun hHeld => ?_)
   refine pure_ (i:=0) (N:=some 9) (v:=?_) (a':=?_) #[true,false,false,false,false,false,false,false,false,false,false,false,false,false,false,false,false,false,false] rfl rfl (by kernel_rfl) (fun _ _ _ h => h) (Or.inl ⟨by rfl,?_⟩) ?_ ?_
   rotate_left
   ·intro w'
    go_simp
    with_reducible rfl
   rotate_left
   ·simp only [Act.put,List.setIfInBounds_toArray,List.set_cons_zero,List.set_cons_succ,i64_w,i32_w]
    rfl
   refine pure_ (i:=2) (N:=some 11) (v:=?_) (a':=?_) #[true,false,true,false,false,false,false,false,false,false,false,false,false,false,false,false,false,false,false] rfl rfl (by kernel_rfl) (fun _ _ _ h => h) (Or.inl ⟨by rfl,?_⟩) ?_ ?_
   rotate_left
   ·intro w'
    go_simp
    with_reducible rfl
   rotate_left
   ·simp only [Act.put,List.setIfInBounds_toArray,List.set_cons_zero,List.set_cons_succ,i64_w,i32_w]
    rfl
   refine take_ (i:=1) (N:=some 10) (v:=?_) (a':=?_) #[true,true,true,false,false,false,false,false,false,false,false,false,false,false,false,false,false,false,false] rfl rfl (by kernel_rfl) (fun _ _ _ h => h) (Or.inl ⟨by rfl,?_⟩) hHeld ?_ ?_
   rotate_left
   ·rintro w' ⟨s0,s1,s2⟩
    go_simp
    with_reducible rfl
   rotate_left
   ·simp only [Act.put,List.setIfInBounds_toArray,List.set_cons_zero,List.set_cons_succ,i64_w,i32_w]
    rfl
   refine one_ (i:=3) (N:=some 12) #[true,true,true,true,false,false,false,false,false,false,false,false,false,false,false,false,false,false,false] rfl rfl (by kernel_rfl) (by decide) (fun K hK => ?_)
   refine goes_ Tryd.func70 (by kernel_rfl) rfl #[.slice (some ad) l0.length c0] (by rfl) rfl rfl (by simp only [List.map_toArray,List.map_cons,List.map_nil];rfl) ?_
   with_reducible refine (hsz1.out _ (by first|exact below_drew1 hb.out|exact pw_below_drewN hb.out _)).mono ?_
   rintro e w3 ⟨rfl,⟨nd,rfl⟩⟩
   refine ⟨_,rfl,?_⟩
   refine hK.out _ _ ⟨(hkeep.out _ rfl).1,(hkeep.out _ rfl).2,(by first|exact hT.out _ (below_drew1 hb.out)|exact hT.out _ (pw_below_drewN (below_drew1 hb.out) _)|exact hT.out _ (pw_below_drewN (pw_below_drewN (below_drew1 hb.out) _) _)|exact hT.out _ (pw_below_drewN hb.out _))⟩ (fun hHeld => ?_)
   clear hK K
   refine norm_ (a':=?_) ?_ ?_
   rotate_left
   ·show Act.put _ (some 12) _ = _
    simp only [Act.put,List.setIfInBounds_toArray,List.set_cons_zero,List.set_cons_succ,i64_w,i32_w]
    rfl
   refine pure_ (i:=4) (N:=some 13) (v:=?_) (a':=?_) #[true,true,true,true,true,false,false,false,false,false,false,false,false,false,false,false,false,false,false] rfl rfl (by kernel_rfl) (fun _ _ _ h => h) (Or.inl ⟨by rfl,?_⟩) ?_ ?_
   rotate_left
   ·intro w'
    go_simp
    with_reducible rfl
   rotate_left
   ·simp only [Act.put,List.setIfInBounds_toArray,List.set_cons_zero,List.set_cons_succ,i64_w,i32_w]
    rfl
   refine one_ (i:=5) (N:=some 14) #[true,true,true,true,true,true,false,false,false,false,false,false,false,false,false,false,false,false,false] rfl rfl (by kernel_rfl) (by decide) (fun K hK => ?_)
   refine goes_ Tryd.func69 (by kernel_rfl) rfl #[.int .i64 ty,.int .i64 0,.int .i64 ((l0.length : Int) - 1)] (by rfl) rfl rfl (by simp only [List.map_toArray,List.map_cons,List.map_nil];rfl) ?_
   with_reducible refine (hwi1.out _).mono ?_
   rintro e w3 ⟨rfl,⟨nd2,rfl⟩⟩
   refine ⟨_,rfl,?_⟩
   refine hK.out _ _ ⟨(hkeep.out _ rfl).1,(hkeep.out _ rfl).2,(by first|exact hT.out _ (below_drew1 hb.out)|exact hT.out _ (pw_below_drewN (below_drew1 hb.out) _)|exact hT.out _ (pw_below_drewN (pw_below_drewN (below_drew1 hb.out) _) _)|exact hT.out _ (pw_below_drewN hb.out _))⟩ (fun hHeld => ?_)
   clear hK K
   refine norm_ (a':=?_) ?_ ?_
   rotate_left
   ·show Act.put _ (some 14) _ = _
    simp only [Act.put,List.setIfInBounds_toArray,List.set_cons_zero,List.set_cons_succ,i64_w,i32_w]
    rfl
   refine pure_ (i:=6) (N:=some 15) (v:=?_) (a':=?_) #[true,true,true,true,true,true,true,false,false,false,false,false,false,false,false,false,false,false,false] rfl rfl (by kernel_rfl) (fun _ _ _ h => h) (Or.inl ⟨by rfl,?_⟩) ?_ ?_
   rotate_left
   ·intro w'
    go_simp
    with_reducible rfl
   rotate_left
   ·simp only [Act.put,List.setIfInBounds_toArray,List.set_cons_zero,List.set_cons_succ,i64_w,i32_w]
    rfl
   refine pure_ (i:=7) (N:=some 16) (v:=?_) (a':=?_) #[true,true,true,true,true,true,true,true,false,false,false,false,false,false,false,false,false,false,false] rfl rfl (by kernel_rfl) (fun _ _ _ h => h) (Or.inl ⟨by rfl,?_⟩) ?_ ?_
   rotate_left
   ·intro w'
    go_simp
    with_reducible rfl
   rotate_left
   ·simp only [Act.put,List.setIfInBounds_toArray,List.set_cons_zero,List.set_cons_succ,i64_w,i32_w]
    rfl
   refine pure_ (i:=8) (N:=some 17) (v:=?_) (a':=?_) #[true,true,true,true,true,true,true,true,true,false,false,false,false,false,false,false,false,false,false] rfl rfl (by kernel_rfl) (fun _ _ _ h => h) (Or.inl ⟨by rfl,?_⟩) ?_ ?_
   rotate_left
   ·intro w'
    go_simp
    with_reducible rfl
   rotate_left
   ·simp only [Act.put,List.setIfInBounds_toArray,List.set_cons_zero,List.set_cons_succ,i64_w,i32_w]
    rfl
   refine pure_ (i:=11) (N:=some 20) (v:=?_) (a':=?_) #[true,true,true,true,true,true,true,true,true,false,false,true,false,false,false,false,false,false,false] rfl rfl (by kernel_rfl) (fun _ _ _ h => h) (Or.inl ⟨by rfl,?_⟩) ?_ ?_
   rotate_left
   ·intro w'
    go_simp
    with_reducible rfl
   rotate_left
   ·simp only [Act.put,List.setIfInBounds_toArray,List.set_cons_zero,List.set_cons_succ,i64_w,i32_w]
    rfl
   refine pure_ (i:=12) (N:=some 21) (v:=?_) (a':=?_) #[true,true,true,true,true,true,true,true,true,false,false,true,true,false,false,false,false,false,false] rfl rfl (by kernel_rfl) (fun _ _ _ h => h) (Or.inl ⟨by rfl,?_⟩) ?_ ?_
   rotate_left
   ·intro w'
    go_simp
    with_reducible rfl
   rotate_left
   ·simp only [Act.put,List.setIfInBounds_toArray,List.set_cons_zero,List.set_cons_succ,i64_w,i32_w]
    rfl
   refine take_ (i:=9) (N:=some 18) (v:=?_) (a':=?_) #[true,true,true,true,true,true,true,true,true,true,false,true,true,false,false,false,false,false,false] rfl rfl (by kernel_rfl) (fun _ _ _ h => h) (Or.inl ⟨by rfl,?_⟩) hHeld ?_ ?_
   rotate_left
   ·rintro w' ⟨s0,s1,s2⟩
    go_simp
    with_reducible rfl
   rotate_left
   ·simp only [Act.put,List.setIfInBounds_toArray,List.set_cons_zero,List.set_cons_succ,i64_w,i32_w]
    rfl
   refine pure_ (i:=10) (N:=some 19) (v:=?_) (a':=?_) #[true,true,true,true,true,true,true,true,true,true,true,true,true,false,false,false,false,false,false] rfl rfl (by kernel_rfl) (fun _ _ _ h => h) (Or.inl ⟨by rfl,?_⟩) ?_ ?_
   rotate_left
   ·intro w'
    go_simp
    with_reducible rfl
   rotate_left
   ·simp only [Act.put,List.setIfInBounds_toArray,List.set_cons_zero,List.set_cons_succ,i64_w,i32_w]
    rfl
   refine take_ (i:=13) (N:=some 22) (v:=?_) (a':=?_) #[true,true,true,true,true,true,true,true,true,true,true,true,true,true,false,false,false,false,false] rfl rfl (by kernel_rfl) (fun _ _ _ h => h) (Or.inl ⟨by rfl,?_⟩) hHeld ?_ ?_
   rotate_left
   ·rintro w' ⟨s0,s1,s2⟩
    go_simp
    with_reducible rfl
   rotate_left
   ·simp only [Act.put,List.setIfInBounds_toArray,List.set_cons_zero,List.set_cons_succ,i64_w,i32_w]
    rfl
   refine pure_ (i:=14) (N:=some 23) (v:=?_) (a':=?_) #[true,true,true,true,true,true,true,true,true,true,true,true,true,true,true,false,false,false,false] rfl rfl (by kernel_rfl) (fun _ _ _ h => h) (Or.inl ⟨by rfl,?_⟩) ?_ ?_
   rotate_left
   ·intro w'
    go_simp
    with_reducible rfl
   rotate_left
   ·simp only [Act.put,List.setIfInBounds_toArray,List.set_cons_zero,List.set_cons_succ,i64_w,i32_w]
    rfl
   refine take_ (i:=15) (N:=some 24) (v:=?_) (a':=?_) #[true,true,true,true,true,true,true,true,true,true,true,true,true,true,true,true,false,false,false] rfl rfl (by kernel_rfl) (fun _ _ _ h => h) (Or.inl ⟨by rfl,?_⟩) hHeld ?_ ?_
   rotate_left
   ·rintro w' ⟨s0,s1,s2⟩
    go_simp
    with_reducible rfl
   rotate_left
   ·simp only [Act.put,List.setIfInBounds_toArray,List.set_cons_zero,List.set_cons_succ,i64_w,i32_w]
    rfl
   refine pure_ (i:=16) (N:=some 25) (v:=?_) (a':=?_) #[true,true,true,true,true,true,true,true,true,true,true,true,true,true,true,true,true,false,false] rfl rfl (by kernel_rfl) (fun _ _ _ h => h) (Or.inl ⟨by rfl,?_⟩) ?_ ?_
   rotate_left
   ·intro w'
    go_simp
    with_reducible rfl
   rotate_left
   ·simp only [Act.put,List.setIfInBounds_toArray,List.set_cons_zero,List.set_cons_succ,i64_w,i32_w]
    rfl
   refine pure_ (i:=17) (N:=some 26) (v:=?_) (a':=?_) #[true,true,true,true,true,true,true,true,true,true,true,true,true,true,true,true,true,true,false] rfl rfl (by kernel_rfl) (fun _ _ _ h => h) (Or.inl ⟨by rfl,?_⟩) ?_ ?_
   rotate_left
   ·intro w'
    go_simp
    with_reducible rfl
   rotate_left
   ·simp only [Act.put,List.setIfInBounds_toArray,List.set_cons_zero,List.set_cons_succ,i64_w,i32_w]
    rfl
   refine pure_ (i:=18) (N:=some 27) (v:=?_) (a':=?_) #[true,true,true,true,true,true,true,true,true,true,true,true,true,true,true,true,true,true,true] rfl rfl (by kernel_rfl) (fun _ _ _ h => h) (Or.inl ⟨by rfl,?_⟩) ?_ ?_
   rotate_left
   ·intro w'
    go_simp
    with_reducible rfl
   rotate_left
   ·simp only [Act.put,List.setIfInBounds_toArray,List.set_cons_zero,List.set_cons_succ,i64_w,i32_w]
    rfl
   refine done_ (by kernel_rfl) ?_
   go_wp2
   go_ret
   exact ⟨rfl,pw_below_drewN (pw_below_drewN (below_drew1 hb.out) _) _⟩
 ·rw [if_neg e0] at h
  obtain rfl:=Option.some.inj h
  have hwi : impl_within.f ty 0 ((l0.length : Int) - 1) = some false:=by
   unfold impl_within.f
   split
   ·rw [decide_eq_false (by omega)]
   ·rfl
  have hwi1:=Lib.hid (fun (W : World) => impl_within.calls ty 0 ((l0.length : Int) - 1) false W hwi)
  clear hwi h
  go_enter Tryd.func94,Tryd.ntmps94
  go_wp2
  refine start_ (n:=19) (S:=fun w' => w'.cell? ⟨w.heap.size,0,none⟩ = some (.int .i64 ty)∧w'.cell? ⟨w.heap.size,1,none⟩ = some (.slice A1 l1.length c1)) (ds:=[]) #[false,false,false,false,false,false,false,false,false,false,false,false,false,false,false,false,false,false,false] (by kernel_rfl) rfl rfl ⟨(hkeep.out _ rfl).1,(hkeep.out _ rfl).2⟩ (fun hHeld => ?_)
  refine pure_ (i:=0) (N:=some 9) (v:=?_) (a':=?_) #[true,false,false,false,false,false,false,false,false,false,false,false,false,false,false,false,false,false,false] rfl rfl (by kernel_rfl) (fun _ _ _ h => h) (Or.inl ⟨by rfl,?_⟩) ?_ ?_
  rotate_left
  ·intro w'
   go_simp
   with_reducible rfl
  rotate_left
  ·simp only [Act.put,List.setIfInBounds_toArray,List.set_cons_zero,List.set_cons_succ,i64_w,i32_w]
   rfl
  refine pure_ (i:=2) (N:=some 11) (v:=?_) (a':=?_) #[true,false,true,false,false,false,false,false,false,false,false,false,false,false,false,false,false,false,false] rfl rfl (by kernel_rfl) (fun _ _ _ h => h) (Or.inl ⟨by rfl,?_⟩) ?_ ?_
  rotate_left
  ·intro w'
   go_simp
   with_reducible rfl
  rotate_left
  ·simp only [Act.put,List.setIfInBounds_toArray,List.set_cons_zero,List.set_cons_succ,i64_w,i32_w]
   rfl
  refine take_ (i:=1) (N:=some 10) (v:=?_) (a':=?_) #[true,true,true,false,false,false,false,false,false,false,false,false,false,false,false,false,false,false,false] rfl rfl (by kernel_rfl) (fun _ _ _ h => h) (Or.inl ⟨by rfl,?_⟩) hHeld ?_ ?_
  rotate_left
  ·rintro w' ⟨s0,s1⟩
   go_simp
   with_reducible rfl
  rotate_left
  ·simp only [Act.put,List.setIfInBounds_toArray,List.set_cons_zero,List.set_cons_succ,i64_w,i32_w]
   rfl
  refine one_ (i:=3) (N:=some 12) #[true,true,true,true,false,false,false,false,false,false,false,false,false,false,false,false,false,false,false] rfl rfl (by kernel_rfl) (by decide) (fun K hK => ?_)
  refine goes_ Tryd.func70 (by kernel_rfl) rfl #[.slice A0 l0.length c0] (by rfl) rfl rfl (by simp only [List.map_toArray,List.map_cons,List.map_nil];rfl) ?_
  with_reducible refine (hsz1.out _ (by first|exact below_drew1 hb.out|exact pw_below_drewN hb.out _)).mono ?_
  rintro e w3 ⟨rfl,⟨nd,rfl⟩⟩
  refine ⟨_,rfl,?_⟩
  refine hK.out _ _ ⟨(hkeep.out _ rfl).1,(hkeep.out _ rfl).2⟩ (fun hHeld => ?_)
  clear hK K
  refine norm_ (a':=?_) ?_ ?_
  rotate_left
  ·show Act.put _ (some 12) _ = _
   simp only [Act.put,List.setIfInBounds_toArray,List.set_cons_zero,List.set_cons_succ,i64_w,i32_w]
   rfl
  refine pure_ (i:=4) (N:=some 13) (v:=?_) (a':=?_) #[true,true,true,true,true,false,false,false,false,false,false,false,false,false,false,false,false,false,false] rfl rfl (by kernel_rfl) (fun _ _ _ h => h) (Or.inl ⟨by rfl,?_⟩) ?_ ?_
  rotate_left
  ·intro w'
   go_simp
   with_reducible rfl
  rotate_left
  ·simp only [Act.put,List.setIfInBounds_toArray,List.set_cons_zero,List.set_cons_succ,i64_w,i32_w]
   rfl
  refine one_ (i:=5) (N:=some 14) #[true,true,true,true,true,true,false,false,false,false,false,false,false,false,false,false,false,false,false] rfl rfl (by kernel_rfl) (by decide) (fun K hK => ?_)
  refine goes_ Tryd.func69 (by kernel_rfl) rfl #[.int .i64 ty,.int .i64 0,.int .i64 ((l0.length : Int) - 1)] (by rfl) rfl rfl (by simp only [List.map_toArray,List.map_cons,List.map_nil];rfl) ?_
  with_reducible refine (hwi1.out _).mono ?_
  rintro e w3 ⟨rfl,⟨nd2,rfl⟩⟩
  refine ⟨_,rfl,?_⟩
  refine hK.out _ _ ⟨(hkeep.out _ rfl).1,(hkeep.out _ rfl).2⟩ (fun hHeld => ?_)
  clear hK K
  refine norm_ (a':=?_) ?_ ?_
  rotate_left
  ·show Act.put _ (some 14) _ = _
   simp only [Act.put,List.setIfInBounds_toArray,List.set_cons_zero,List.set_cons_succ,i64_w,i32_w]
   rfl
  refine pure_ (i:=6) (N:=some 15) (v:=?_) (a':=?_) #[true,true,true,true,true,true,true,false,false,false,false,false,false,false,false,false,false,false,false] rfl rfl (by kernel_rfl) (fun _ _ _ h => h) (Or.inl ⟨by rfl,?_⟩) ?_ ?_
  rotate_left
  ·intro w'
   go_simp
   with_reducible rfl
  rotate_left
  ·simp only [Act.put,List.setIfInBounds_toArray,List.set_cons_zero,List.set_cons_succ,i64_w,i32_w]
   rfl
  refine pure_ (i:=7) (N:=some 16) (v:=?_) (a':=?_) #[true,true,true,true,true,true,true,true,false,false,false,false,false,false,false,false,false,false,false] rfl rfl (by kernel_rfl) (fun _ _ _ h => h) (Or.inl ⟨by rfl,?_⟩) ?_ ?_
  rotate_left
  ·intro w'
   go_simp
   with_reducible rfl
  rotate_left
  ·simp only [Act.put,List.setIfInBounds_toArray,List.set_cons_zero,List.set_cons_succ,i64_w,i32_w]
   rfl
  refine pure_ (i:=8) (N:=some 17) (v:=undef) (a':=?_) #[true,true,true,true,true,true,true,true,true,false,false,false,false,false,false,false,false,false,false] rfl rfl (by kernel_rfl) (fun _ _ _ h => h) (Or.inr ⟨by rfl,rfl⟩) ?_ ?_
  rotate_left
  ·simp only [Act.put,List.setIfInBounds_toArray,List.set_cons_zero,List.set_cons_succ,i64_w,i32_w]
   rfl
  refine pure_ (i:=9) (N:=some 18) (v:=undef) (a':=?_) #[true,true,true,true,true,true,true,true,true,true,false,false,false,false,false,false,false,false,false] rfl rfl (by kernel_rfl) (fun _ _ _ h => h) (Or.inr ⟨by rfl,rfl⟩) ?_ ?_
  rotate_left
  ·simp only [Act.put,List.setIfInBounds_toArray,List.set_cons_zero,List.set_cons_succ,i64_w,i32_w]
   rfl
  refine pure_ (i:=10) (N:=some 19) (v:=undef) (a':=?_) #[true,true,true,true,true,true,true,true,true,true,true,false,false,false,false,false,false,false,false] rfl rfl (by kernel_rfl) (fun _ _ _ h => h) (Or.inr ⟨by rfl,rfl⟩) ?_ ?_
  rotate_left
  ·simp only [Act.put,List.setIfInBounds_toArray,List.set_cons_zero,List.set_cons_succ,i64_w,i32_w]
   rfl
  refine pure_ (i:=11) (N:=some 20) (v:=undef) (a':=?_) #[true,true,true,true,true,true,true,true,true,true,true,true,false,false,false,false,false,false,false] rfl rfl (by kernel_rfl) (fun _ _ _ h => h) (Or.inr ⟨by rfl,rfl⟩) ?_ ?_
  rotate_left
  ·simp only [Act.put,List.setIfInBounds_toArray,List.set_cons_zero,List.set_cons_succ,i64_w,i32_w]
   rfl
  refine pure_ (i:=12) (N:=some 21) (v:=undef) (a':=?_) #[true,true,true,true,true,true,true,true,true,true,true,true,true,false,false,false,false,false,false] rfl rfl (by kernel_rfl) (fun _ _ _ h => h) (Or.inr ⟨by rfl,rfl⟩) ?_ ?_
  rotate_left
  ·simp only [Act.put,List.setIfInBounds_toArray,List.set_cons_zero,List.set_cons_succ,i64_w,i32_w]
   rfl
  refine pure_ (i:=13) (N:=some 22) (v:=undef) (a':=?_) #[true,true,true,true,true,true,true,true,true,true,true,true,true,true,false,false,false,false,false] rfl rfl (by kernel_rfl) (fun _ _ _ h => h) (Or.inr ⟨by rfl,rfl⟩) ?_ ?_
  rotate_left
  ·simp only [Act.put,List.setIfInBounds_toArray,List.set_cons_zero,List.set_cons_succ,i64_w,i32_w]
   rfl
  refine pure_ (i:=14) (N:=some 23) (v:=undef) (a':=?_) #[true,true,true,true,true,true,true,true,true,true,true,true,true,true,true,false,false,false,false] rfl rfl (by kernel_rfl) (fun _ _ _ h => h) (Or.inr ⟨by rfl,rfl⟩) ?_ ?_
  rotate_left
  ·simp only [Act.put,List.setIfInBounds_toArray,List.set_cons_zero,List.set_cons_succ,i64_w,i32_w]
   rfl
  refine pure_ (i:=15) (N:=some 24) (v:=undef) (a':=?_) #[true,true,true,true,true,true,true,true,true,true,true,true,true,true,true,true,false,false,false] rfl rfl (by kernel_rfl) (fun _ _ _ h => h) (Or.inr ⟨by rfl,rfl⟩) ?_ ?_
  rotate_left
  ·simp only [Act.put,List.setIfInBounds_toArray,List.set_cons_zero,List.set_cons_succ,i64_w,i32_w]
   rfl
  refine pure_ (i:=16) (N:=some 25) (v:=undef) (a':=?_) #[true,true,true,true,true,true,true,true,true,true,true,true,true,true,true,true,true,false,false] rfl rfl (by kernel_rfl) (fun _ _ _ h => h) (Or.inr ⟨by rfl,rfl⟩) ?_ ?_
  rotate_left
  ·simp only [Act.put,List.setIfInBounds_toArray,List.set_cons_zero,List.set_cons_succ,i64_w,i32_w]
   rfl
  refine pure_ (i:=17) (N:=some 26) (v:=undef) (a':=?_) #[true,true,true,true,true,true,true,true,true,true,true,true,true,true,true,true,true,true,false] rfl rfl (by kernel_rfl) (fun _ _ _ h => h) (Or.inr ⟨by rfl,rfl⟩) ?_ ?_
  rotate_left
  ·simp only [Act.put,List.setIfInBounds_toArray,List.set_cons_zero,List.set_cons_succ,i64_w,i32_w]
   rfl
  refine pure_ (i:=18) (N:=some 27) (v:=?_) (a':=?_) #[true,true,true,true,true,true,true,true,true,true,true,true,true,true,true,true,true,true,true] rfl rfl (by kernel_rfl) (fun _ _ _ h => h) (Or.inl ⟨by rfl,?_⟩) ?_ ?_
  rotate_left
  ·intro w'
   go_simp
   with_reducible rfl
  rotate_left
  ·simp only [Act.put,List.setIfInBounds_toArray,List.set_cons_zero,List.set_cons_succ,i64_w,i32_w]
   rfl
  refine done_ (by kernel_rfl) ?_
  go_wp2
  go_ret
  exact ⟨rfl,pw_below_drewN (pw_below_drewN (below_drew1 hb.out) _) _⟩


end Go.Proofs.YtgfeafcgpeclcaaDoor.X
namespace Go.Proofs.YtgfeafcgpeclcaaDoor.X
open Go.RowKit Go.Proofs.YtgfeafcgpeclcaaDoorW.PrintWords Go.Proofs.YtgfeafcgpeclcaaDoorW.PrintLast Go.Proofs.YtgfeafcgpeclcaaDoorW.PrintMore
attribute [local go_sem] max2_int min2_int max_two min_two max_three min_three max_four min_four   -- for this text's walks alone
set_option linter.unusedVariables false
set_option linter.unusedSimpArgs false

/-! ### impl_heads: function 60 -/

theorem heads1_walk (k : Nat) (x : Int) (b : Bool) (B : Nat) (A : Option Addr) (c : Nat) (l : List Int) (w : World) (hc : w.cell? ⟨B, 0, none⟩ = some (.slice A l.length c)) (hr : Kd.C (Kd.int .i64) w A l.length l) (hcl : l.length ≤ c) (h : impl_isRef.f k x l = some b) :
  Calls Tryd.prog 95 #[.int .i64 x,.pointer (some ⟨B,0,none⟩)] w fun e w' => e = .returned (.bool b)∧Below w.heap.size w w':=by
 have hcall:=Lib.hid (fun (W : World) (hW : Below w.heap.size w W) => impl_isRef.calls k x A c l b W (Kd.C_below hr hW) hcl h)
 clear hr h
 go_enter Tryd.func95,Tryd.ntmps95
 go_wp2_with (go_at_call 74;refine (hcall.out _ (by first|exact Below.refl _ _|exact pw_below_drewN (Below.refl _ _) _)).mono ?_;rintro e w' ⟨rfl,⟨nd,rfl⟩⟩)
 go_ret
 exact ⟨rfl,pw_below_drewN (Below.refl _ _) _⟩
/-- Are the objects of the header words right? -/
def headsOk (k : Nat) (types : List ByteArray) (size : Int) (words list : List Int) : List Int → Option Bool
 | [] => some true
 | h :: l => (impl_youngObject.f types size words h).bind fun o => (isObjF (fun x => impl_isRef.f k x list) types o.1 o.2).bind fun b => if b = true then headsOk k types size words list l else some false
theorem headsOk_mono (k : Nat) (types : List ByteArray) (size : Int) (words list : List Int) : ∀ l, LeO (headsOk k types size words list l) (headsOk (k + 1) types size words list l)
 | [] => LeO.refl _
 | h :: l => LeO.bind (LeO.refl _) fun o => LeO.bind (isObjF_mono (fun x => impl_isRef.mono _ _ _) _ _ _) fun _ => LeO.ite (headsOk_mono k types size words list l) (LeO.refl _)
def impl_heads.f (k : Nat) (a0 : List ByteArray) (a1 : Int) (l1 : List Int) : Option (List Int × Bool) :=
 (impl_TypesOk.f a0).bind fun t => if t = true then (if 2 ≤ a1∧a1 ≤ 400 then (if (l1.length : Int) ≤ a1 then (impl_starts.f k a0 a1 l1).bind fun p => if p.2 = true then (headsOk k a0 a1 l1 p.1 p.1).bind fun b => if b = true then some (p.1,true) else some ([],false) else some ([],false) else some ([],false)) else some ([],false)) else some ([],false)
theorem impl_heads.mono : ∀ a0 a1 a2 k, LeO (impl_heads.f k a0 a1 a2) (impl_heads.f (k + 1) a0 a1 a2) := fun a0 a1 a2 k =>
 LeO.bind (LeO.refl _) fun _ => LeO.ite (LeO.ite (LeO.ite (LeO.bind (impl_starts.mono _ _ _ _) fun _ => LeO.ite (LeO.bind (headsOk_mono _ _ _ _ _ _) fun _ => LeO.refl _) (LeO.refl _)) (LeO.refl _)) (LeO.refl _)) (LeO.refl _)
set_option maxHeartbeats 4000000 in
set_option maxRecDepth 100000 in
theorem impl_heads.calls (k : Nat) (A0 : Option Addr) (c0 : Nat) (l0 : List ByteArray) (a1_0 : Int) (A1_1 : Option Addr) (c1_1 : Nat) (l1_1 : List Int) (r1 : List Int) (r2 : Bool) (w : World) (hr0 : Kd.C Kd.string w A0 l0.length l0) (hc0 : l0.length ≤ c0) (hr1_1 : Kd.C (Kd.int .i64) w A1_1 l1_1.length l1_1) (hc1_1 : l1_1.length ≤ c1_1) (h : impl_heads.f k l0 a1_0 l1_1 = some (r1, r2)) :
  Calls Tryd.prog 60 #[.slice A0 l0.length c0,.agg #[.int .i64 a1_0,.slice A1_1 l1_1.length c1_1]] w fun e w' => ∃ v0_ : Value,e = .returned (.tuple #[v0_,.bool r2])∧Kd.R (Kd.int .i64) 2 w' w.heap.size (fun _ => True) v0_ r1∧Below w.heap.size w w':=by
 obtain ⟨tk,htk,h⟩:=Option.bind_eq_some_iff.1 h
 have HR0:=Lib.hid hr0
 have HR1:=Lib.hid hr1_1
 have hlen0 : l0.length ≤ 9223372036854775807:=hr0.2.1
 have hlen1 : l1_1.length ≤ 9223372036854775807:=hr1_1.2.1
 clear hr0 hr1_1
 have hb:=Lib.hid (below_alloc (Below.refl w.heap.size w) (.cells #[.int .i64 a1_0,.slice A1_1 l1_1.length c1_1] 30))
 have hcT:=Lib.hid (fun (W : World) (hW : Below w.heap.size w W) => impl_TypesOk.calls A0 c0 l0 tk W (Kd.C_below HR0.out hW) hc0 htk)
 have hcS:=Lib.hid (fun (W : World) (hW : Below w.heap.size w W) => impl_size_int64.calls A1_1 c1_1 l1_1 (l1_1.length : Int) W (Kd.C_below HR1.out hW) hc1_1 rfl)
 have hkeep:=Lib.hid (fun (W : World) (hW : W.heap[w.heap.size]? = some (.cells #[.int .i64 a1_0,.slice A1_1 l1_1.length c1_1] 30 (0,0))) => (show W.cell? ⟨w.heap.size,0,none⟩ = some (.int .i64 a1_0)∧W.cell? ⟨w.heap.size,1,none⟩ = some (.slice A1_1 l1_1.length c1_1) from ⟨blk_cell hW 0,blk_cell hW 1⟩))
 clear htk
 cases tk with
 | false =>
   rw [if_neg (by simp)] at h
   obtain ⟨rfl,rfl⟩:=Prod.mk.inj (Option.some.inj h)
   clear h
   go_enter Tryd.func60,Tryd.ntmps60
   go_wp2
   refine start_ (n:=17) (S:=fun w' => w'.cell? ⟨w.heap.size,0,none⟩ = some (.int .i64 a1_0)∧w'.cell? ⟨w.heap.size,1,none⟩ = some (.slice A1_1 l1_1.length c1_1)) (ds:=[]) #[false,false,false,false,false,false,false,false,false,false,false,false,false,false,false,false,false] (by kernel_rfl) rfl rfl ⟨(hkeep.out _ (heap_alloc_new w _)).1,(hkeep.out _ (heap_alloc_new w _)).2⟩ (fun hHeld => ?_)
   refine pure_ (i:=0) (N:=some 10) (v:=?_) (a':=?_) #[true,false,false,false,false,false,false,false,false,false,false,false,false,false,false,false,false] rfl rfl (by kernel_rfl) (fun _ _ _ h => h) (Or.inl ⟨by rfl,?_⟩) ?_ ?_
   rotate_left
   ·intro w'
    go_simp
    with_reducible rfl
   rotate_left
   ·simp only [Act.put,List.setIfInBounds_toArray,List.set_cons_zero,List.set_cons_succ,i64_w,i32_w]
    rfl
   refine one_ (i:=1) (N:=some 11) #[true,true,false,false,false,false,false,false,false,false,false,false,false,false,false,false,false] rfl rfl (by kernel_rfl) (by decide) (fun K hK => ?_)
   refine goes_ Tryd.func92 (by kernel_rfl) rfl #[.slice A0 l0.length c0] (by rfl) rfl rfl (by simp only [List.map_toArray,List.map_cons,List.map_nil];rfl) ?_
   with_reducible refine (hcT.out _ (below_drew1 hb.out)).mono ?_
   rintro e w3 ⟨rfl,hbT⟩
   refine ⟨_,rfl,?_⟩
   refine hK.out _ _ ⟨(hkeep.out _ ((hbT.block _ (Array.getElem?_eq_some_iff.1 (heap_alloc_new w _)).1).trans (heap_alloc_new w _))).1,(hkeep.out _ ((hbT.block _ (Array.getElem?_eq_some_iff.1 (heap_alloc_new w _)).1).trans (heap_alloc_new w _))).2⟩ (fun hHeld => ?_)
   clear hK K
   refine norm_ (a':=?_) ?_ ?_
   rotate_left
   ·show Act.put _ (some 11) _ = _
    simp only [Act.put,List.setIfInBounds_toArray,List.set_cons_zero,List.set_cons_succ,i64_w,i32_w]
    rfl
   refine pure_ (i:=2) (N:=some 12) (v:=?_) (a':=?_) #[true,true,true,false,false,false,false,false,false,false,false,false,false,false,false,false,false] rfl rfl (by kernel_rfl) (fun _ _ _ h => h) (Or.inl ⟨by rfl,?_⟩) ?_ ?_
   rotate_left
   ·intro w'
    go_simp
    with_reducible rfl
   rotate_left
   ·simp only [Act.put,List.setIfInBounds_toArray,List.set_cons_zero,List.set_cons_succ,i64_w,i32_w]
    rfl
   refine pure_ (i:=3) (N:=some 13) (v:=?_) (a':=?_) #[true,true,true,true,false,false,false,false,false,false,false,false,false,false,false,false,false] rfl rfl (by kernel_rfl) (fun _ _ _ h => h) (Or.inl ⟨by rfl,?_⟩) ?_ ?_
   rotate_left
   ·intro w'
    go_simp
    with_reducible rfl
   rotate_left
   ·simp only [Act.put,List.setIfInBounds_toArray,List.set_cons_zero,List.set_cons_succ,i64_w,i32_w]
    rfl
   refine pure_ (i:=4) (N:=some 14) (v:=undef) (a':=?_) #[true,true,true,true,true,false,false,false,false,false,false,false,false,false,false,false,false] rfl rfl (by kernel_rfl) (fun _ _ _ h => h) (Or.inr ⟨by rfl,rfl⟩) ?_ ?_
   rotate_left
   ·simp only [Act.put,List.setIfInBounds_toArray,List.set_cons_zero,List.set_cons_succ,i64_w,i32_w]
    rfl
   refine pure_ (i:=5) (N:=some 15) (v:=undef) (a':=?_) #[true,true,true,true,true,true,false,false,false,false,false,false,false,false,false,false,false] rfl rfl (by kernel_rfl) (fun _ _ _ h => h) (Or.inr ⟨by rfl,rfl⟩) ?_ ?_
   rotate_left
   ·simp only [Act.put,List.setIfInBounds_toArray,List.set_cons_zero,List.set_cons_succ,i64_w,i32_w]
    rfl
   refine pure_ (i:=6) (N:=some 16) (v:=undef) (a':=?_) #[true,true,true,true,true,true,true,false,false,false,false,false,false,false,false,false,false] rfl rfl (by kernel_rfl) (fun _ _ _ h => h) (Or.inr ⟨by rfl,rfl⟩) ?_ ?_
   rotate_left
   ·simp only [Act.put,List.setIfInBounds_toArray,List.set_cons_zero,List.set_cons_succ,i64_w,i32_w]
    rfl
   refine pure_ (i:=7) (N:=some 17) (v:=undef) (a':=?_) #[true,true,true,true,true,true,true,true,false,false,false,false,false,false,false,false,false] rfl rfl (by kernel_rfl) (fun _ _ _ h => h) (Or.inr ⟨by rfl,rfl⟩) ?_ ?_
   rotate_left
   ·simp only [Act.put,List.setIfInBounds_toArray,List.set_cons_zero,List.set_cons_succ,i64_w,i32_w]
    rfl
   refine pure_ (i:=8) (N:=some 18) (v:=?_) (a':=?_) #[true,true,true,true,true,true,true,true,true,false,false,false,false,false,false,false,false] rfl rfl (by kernel_rfl) (fun _ _ _ h => h) (Or.inl ⟨by rfl,?_⟩) ?_ ?_
   rotate_left
   ·intro w'
    go_simp
    with_reducible rfl
   rotate_left
   ·simp only [Act.put,List.setIfInBounds_toArray,List.set_cons_zero,List.set_cons_succ,i64_w,i32_w]
    rfl
   refine pure_ (i:=9) (N:=some 19) (v:=?_) (a':=?_) #[true,true,true,true,true,true,true,true,true,true,false,false,false,false,false,false,false] rfl rfl (by kernel_rfl) (fun _ _ _ h => h) (Or.inl ⟨by rfl,?_⟩) ?_ ?_
   rotate_left
   ·intro w'
    go_simp
    with_reducible rfl
   rotate_left
   ·simp only [Act.put,List.setIfInBounds_toArray,List.set_cons_zero,List.set_cons_succ,i64_w,i32_w]
    rfl
   refine pure_ (i:=10) (N:=some 20) (v:=undef) (a':=?_) #[true,true,true,true,true,true,true,true,true,true,true,false,false,false,false,false,false] rfl rfl (by kernel_rfl) (fun _ _ _ h => h) (Or.inr ⟨by rfl,rfl⟩) ?_ ?_
   rotate_left
   ·simp only [Act.put,List.setIfInBounds_toArray,List.set_cons_zero,List.set_cons_succ,i64_w,i32_w]
    rfl
   refine pure_ (i:=11) (N:=some 21) (v:=undef) (a':=?_) #[true,true,true,true,true,true,true,true,true,true,true,true,false,false,false,false,false] rfl rfl (by kernel_rfl) (fun _ _ _ h => h) (Or.inr ⟨by rfl,rfl⟩) ?_ ?_
   rotate_left
   ·simp only [Act.put,List.setIfInBounds_toArray,List.set_cons_zero,List.set_cons_succ,i64_w,i32_w]
    rfl
   refine pure_ (i:=12) (N:=some 22) (v:=undef) (a':=?_) #[true,true,true,true,true,true,true,true,true,true,true,true,true,false,false,false,false] rfl rfl (by kernel_rfl) (fun _ _ _ h => h) (Or.inr ⟨by rfl,rfl⟩) ?_ ?_
   rotate_left
   ·simp only [Act.put,List.setIfInBounds_toArray,List.set_cons_zero,List.set_cons_succ,i64_w,i32_w]
    rfl
   refine pure_ (i:=13) (N:=some 23) (v:=undef) (a':=?_) #[true,true,true,true,true,true,true,true,true,true,true,true,true,true,false,false,false] rfl rfl (by kernel_rfl) (fun _ _ _ h => h) (Or.inr ⟨by rfl,rfl⟩) ?_ ?_
   rotate_left
   ·simp only [Act.put,List.setIfInBounds_toArray,List.set_cons_zero,List.set_cons_succ,i64_w,i32_w]
    rfl
   refine pure_ (i:=14) (N:=some 24) (v:=undef) (a':=?_) #[true,true,true,true,true,true,true,true,true,true,true,true,true,true,true,false,false] rfl rfl (by kernel_rfl) (fun _ _ _ h => h) (Or.inr ⟨by rfl,rfl⟩) ?_ ?_
   rotate_left
   ·simp only [Act.put,List.setIfInBounds_toArray,List.set_cons_zero,List.set_cons_succ,i64_w,i32_w]
    rfl
   refine pure_ (i:=15) (N:=some 25) (v:=undef) (a':=?_) #[true,true,true,true,true,true,true,true,true,true,true,true,true,true,true,true,false] rfl rfl (by kernel_rfl) (fun _ _ _ h => h) (Or.inr ⟨by rfl,rfl⟩) ?_ ?_
   rotate_left
   ·simp only [Act.put,List.setIfInBounds_toArray,List.set_cons_zero,List.set_cons_succ,i64_w,i32_w]
    rfl
   refine pure_ (i:=16) (N:=some 26) (v:=?_) (a':=?_) #[true,true,true,true,true,true,true,true,true,true,true,true,true,true,true,true,true] rfl rfl (by kernel_rfl) (fun _ _ _ h => h) (Or.inl ⟨by rfl,?_⟩) ?_ ?_
   rotate_left
   ·intro w'
    go_simp
    with_reducible rfl
   rotate_left
   ·simp only [Act.put,List.setIfInBounds_toArray,List.set_cons_zero,List.set_cons_succ,i64_w,i32_w]
    rfl
   refine done_ (by kernel_rfl) ?_
   go_wp2
   go_ret2
   exact ⟨_,rfl,Kd.R_nil _ _ _ _ _,below_step (below_drew1 hb.out) hbT⟩
 | true =>
  rw [if_pos rfl] at h
  by_cases e1 : 2 ≤ a1_0∧a1_0 ≤ 400
  ·rw [if_pos e1] at h
   have hcW:=Lib.hid (fun (W : World) => impl_within.calls a1_0 2 400 true W (by unfold impl_within.f;rw [if_pos e1.1,decide_eq_true e1.2]))
   by_cases e2 : (l1_1.length : Int) ≤ a1_0
   ·rw [if_pos e2] at h
    obtain ⟨⟨lst,ok⟩,hst,h⟩:=Option.bind_eq_some_iff.1 h
    have hcSt:=Lib.hid (fun (W : World) (hW : Below w.heap.size w W) => impl_starts.calls k A0 c0 l0 a1_0 A1_1 c1_1 l1_1 lst ok W (Kd.C_below HR0.out hW) hc0 (Kd.C_below HR1.out hW) hc1_1 hst)
    have e3 : decide (a1_0 < (l1_1.length : Int)) = false:=decide_eq_false (by omega)
    have e4 : ¬ (a1_0 < (l1_1.length : Int)):=by omega
    clear hst
    cases ok with
    | false =>
     rw [if_neg (by simp)] at h
     obtain ⟨rfl,rfl⟩:=Prod.mk.inj (Option.some.inj h)
     clear h
     go_enter Tryd.func60,Tryd.ntmps60
     go_wp2
     refine start_ (n:=17) (S:=fun w' => w'.cell? ⟨w.heap.size,0,none⟩ = some (.int .i64 a1_0)∧w'.cell? ⟨w.heap.size,1,none⟩ = some (.slice A1_1 l1_1.length c1_1)) (ds:=[]) #[false,false,false,false,false,false,false,false,false,false,false,false,false,false,false,false,false] (by kernel_rfl) rfl rfl ⟨(hkeep.out _ (heap_alloc_new w _)).1,(hkeep.out _ (heap_alloc_new w _)).2⟩ (fun hHeld => ?_)
     refine pure_ (i:=0) (N:=some 10) (v:=?_) (a':=?_) #[true,false,false,false,false,false,false,false,false,false,false,false,false,false,false,false,false] rfl rfl (by kernel_rfl) (fun _ _ _ h => h) (Or.inl ⟨by rfl,?_⟩) ?_ ?_
     rotate_left
     ·intro w'
      go_simp
      with_reducible rfl
     rotate_left
     ·simp only [Act.put,List.setIfInBounds_toArray,List.set_cons_zero,List.set_cons_succ,i64_w,i32_w]
      rfl
     refine one_ (i:=1) (N:=some 11) #[true,true,false,false,false,false,false,false,false,false,false,false,false,false,false,false,false] rfl rfl (by kernel_rfl) (by decide) (fun K hK => ?_)
     refine goes_ Tryd.func92 (by kernel_rfl) rfl #[.slice A0 l0.length c0] (by rfl) rfl rfl (by simp only [List.map_toArray,List.map_cons,List.map_nil];rfl) ?_
     with_reducible refine (hcT.out _ (below_drew1 hb.out)).mono ?_
     rintro e w3 ⟨rfl,hbT⟩
     refine ⟨_,rfl,?_⟩
     refine hK.out _ _ ⟨(hkeep.out _ ((hbT.block _ (Array.getElem?_eq_some_iff.1 (heap_alloc_new w _)).1).trans (heap_alloc_new w _))).1,(hkeep.out _ ((hbT.block _ (Array.getElem?_eq_some_iff.1 (heap_alloc_new w _)).1).trans (heap_alloc_new w _))).2⟩ (fun hHeld => ?_)
     clear hK K
     refine norm_ (a':=?_) ?_ ?_
     rotate_left
     ·show Act.put _ (some 11) _ = _
      simp only [Act.put,List.setIfInBounds_toArray,List.set_cons_zero,List.set_cons_succ,i64_w,i32_w]
      rfl
     refine pure_ (i:=2) (N:=some 12) (v:=?_) (a':=?_) #[true,true,true,false,false,false,false,false,false,false,false,false,false,false,false,false,false] rfl rfl (by kernel_rfl) (fun _ _ _ h => h) (Or.inl ⟨by rfl,?_⟩) ?_ ?_
     rotate_left
     ·intro w'
      go_simp
      with_reducible rfl
     rotate_left
     ·simp only [Act.put,List.setIfInBounds_toArray,List.set_cons_zero,List.set_cons_succ,i64_w,i32_w]
      rfl
     refine pure_ (i:=3) (N:=some 13) (v:=?_) (a':=?_) #[true,true,true,true,false,false,false,false,false,false,false,false,false,false,false,false,false] rfl rfl (by kernel_rfl) (fun _ _ _ h => h) (Or.inl ⟨by rfl,?_⟩) ?_ ?_
     rotate_left
     ·intro w'
      go_simp
      with_reducible rfl
     rotate_left
     ·simp only [Act.put,List.setIfInBounds_toArray,List.set_cons_zero,List.set_cons_succ,i64_w,i32_w]
      rfl
     refine pure_ (i:=4) (N:=some 14) (v:=?_) (a':=?_) #[true,true,true,true,true,false,false,false,false,false,false,false,false,false,false,false,false] rfl rfl (by kernel_rfl) (fun _ _ _ h => h) (Or.inl ⟨by rfl,?_⟩) ?_ ?_
     rotate_left
     ·intro w'
      go_simp
      with_reducible rfl
     rotate_left
     ·simp only [Act.put,List.setIfInBounds_toArray,List.set_cons_zero,List.set_cons_succ,i64_w,i32_w]
      rfl
     refine take_ (i:=5) (N:=some 15) (v:=?_) (a':=?_) #[true,true,true,true,true,true,false,false,false,false,false,false,false,false,false,false,false] rfl rfl (by kernel_rfl) (fun _ _ _ h => h) (Or.inl ⟨by rfl,?_⟩) hHeld ?_ ?_
     rotate_left
     ·rintro w' ⟨s0,s1⟩
      go_simp
      with_reducible rfl
     rotate_left
     ·simp only [Act.put,List.setIfInBounds_toArray,List.set_cons_zero,List.set_cons_succ,i64_w,i32_w]
      rfl
     refine one_ (i:=6) (N:=some 16) #[true,true,true,true,true,true,true,false,false,false,false,false,false,false,false,false,false] rfl rfl (by kernel_rfl) (by decide) (fun K hK => ?_)
     refine goes_ Tryd.func69 (by kernel_rfl) rfl #[.int .i64 a1_0,.int .i64 2,.int .i64 400] (by rfl) rfl rfl (by simp only [List.map_toArray,List.map_cons,List.map_nil];rfl) ?_
     with_reducible refine (hcW.out _).mono ?_
     rintro e w4 ⟨rfl,⟨nd,rfl⟩⟩
     refine ⟨_,rfl,?_⟩
     refine hK.out _ _ ⟨(hkeep.out _ ((hbT.block _ (Array.getElem?_eq_some_iff.1 (heap_alloc_new w _)).1).trans (heap_alloc_new w _))).1,(hkeep.out _ ((hbT.block _ (Array.getElem?_eq_some_iff.1 (heap_alloc_new w _)).1).trans (heap_alloc_new w _))).2⟩ (fun hHeld => ?_)
     clear hK K
     refine norm_ (a':=?_) ?_ ?_
     rotate_left
     ·show Act.put _ (some 16) _ = _
      simp only [Act.put,List.setIfInBounds_toArray,List.set_cons_zero,List.set_cons_succ,i64_w,i32_w]
      rfl
     refine pure_ (i:=7) (N:=some 17) (v:=?_) (a':=?_) #[true,true,true,true,true,true,true,true,false,false,false,false,false,false,false,false,false] rfl rfl (by kernel_rfl) (fun _ _ _ h => h) (Or.inl ⟨by rfl,?_⟩) ?_ ?_
     rotate_left
     ·intro w'
      go_simp
      with_reducible rfl
     rotate_left
     ·simp only [Act.put,List.setIfInBounds_toArray,List.set_cons_zero,List.set_cons_succ,i64_w,i32_w]
      rfl
     refine pure_ (i:=8) (N:=some 18) (v:=?_) (a':=?_) #[true,true,true,true,true,true,true,true,true,false,false,false,false,false,false,false,false] rfl rfl (by kernel_rfl) (fun _ _ _ h => h) (Or.inl ⟨by rfl,?_⟩) ?_ ?_
     rotate_left
     ·intro w'
      go_simp
      with_reducible rfl
     rotate_left
     ·simp only [Act.put,List.setIfInBounds_toArray,List.set_cons_zero,List.set_cons_succ,i64_w,i32_w]
      rfl
     refine pure_ (i:=9) (N:=some 19) (v:=?_) (a':=?_) #[true,true,true,true,true,true,true,true,true,true,false,false,false,false,false,false,false] rfl rfl (by kernel_rfl) (fun _ _ _ h => h) (Or.inl ⟨by rfl,?_⟩) ?_ ?_
     rotate_left
     ·intro w'
      go_simp
      with_reducible rfl
     rotate_left
     ·simp only [Act.put,List.setIfInBounds_toArray,List.set_cons_zero,List.set_cons_succ,i64_w,i32_w]
      rfl
     refine pure_ (i:=10) (N:=some 20) (v:=?_) (a':=?_) #[true,true,true,true,true,true,true,true,true,true,true,false,false,false,false,false,false] rfl rfl (by kernel_rfl) (fun _ _ _ h => h) (Or.inl ⟨by rfl,?_⟩) ?_ ?_
     rotate_left
     ·intro w'
      go_simp
      with_reducible rfl
     rotate_left
     ·simp only [Act.put,List.setIfInBounds_toArray,List.set_cons_zero,List.set_cons_succ,i64_w,i32_w]
      rfl
     refine pure_ (i:=13) (N:=some 23) (v:=?_) (a':=?_) #[true,true,true,true,true,true,true,true,true,true,true,false,false,true,false,false,false] rfl rfl (by kernel_rfl) (fun _ _ _ h => h) (Or.inl ⟨by rfl,?_⟩) ?_ ?_
     rotate_left
     ·intro w'
      go_simp
      with_reducible rfl
     rotate_left
     ·simp only [Act.put,List.setIfInBounds_toArray,List.set_cons_zero,List.set_cons_succ,i64_w,i32_w]
      rfl
     refine take_ (i:=11) (N:=some 21) (v:=?_) (a':=?_) #[true,true,true,true,true,true,true,true,true,true,true,true,false,true,false,false,false] rfl rfl (by kernel_rfl) (fun _ _ _ h => h) (Or.inl ⟨by rfl,?_⟩) hHeld ?_ ?_
     rotate_left
     ·rintro w' ⟨s0,s1⟩
      go_simp
      with_reducible rfl
     rotate_left
     ·simp only [Act.put,List.setIfInBounds_toArray,List.set_cons_zero,List.set_cons_succ,i64_w,i32_w]
      rfl
     refine take_ (i:=14) (N:=some 24) (v:=?_) (a':=?_) #[true,true,true,true,true,true,true,true,true,true,true,true,false,true,true,false,false] rfl rfl (by kernel_rfl) (fun _ _ _ h => h) (Or.inl ⟨by rfl,?_⟩) hHeld ?_ ?_
     rotate_left
     ·rintro w' ⟨s0,s1⟩
      go_simp
      with_reducible rfl
     rotate_left
     ·simp only [Act.put,List.setIfInBounds_toArray,List.set_cons_zero,List.set_cons_succ,i64_w,i32_w]
      rfl
     refine one_ (i:=12) (N:=some 22) #[true,true,true,true,true,true,true,true,true,true,true,true,true,true,true,false,false] rfl rfl (by kernel_rfl) (by decide) (fun K hK => ?_)
     refine goes_ Tryd.func71 (by kernel_rfl) rfl #[.slice A1_1 l1_1.length c1_1] (by rfl) rfl rfl (by simp only [List.map_toArray,List.map_cons,List.map_nil];rfl) ?_
     with_reducible refine (hcS.out _ (pw_below_drewN (below_step (below_drew1 hb.out) hbT) _)).mono ?_
     rintro e w5 ⟨rfl,⟨nd2,rfl⟩⟩
     refine ⟨_,rfl,?_⟩
     refine hK.out _ _ ⟨(hkeep.out _ ((hbT.block _ (Array.getElem?_eq_some_iff.1 (heap_alloc_new w _)).1).trans (heap_alloc_new w _))).1,(hkeep.out _ ((hbT.block _ (Array.getElem?_eq_some_iff.1 (heap_alloc_new w _)).1).trans (heap_alloc_new w _))).2⟩ (fun hHeld => ?_)
     clear hK K
     refine norm_ (a':=?_) ?_ ?_
     rotate_left
     ·show Act.put _ (some 22) _ = _
      simp only [Act.put,List.setIfInBounds_toArray,List.set_cons_zero,List.set_cons_succ,i64_w,i32_w]
      rfl
     refine pure_ (i:=15) (N:=some 25) (v:=?_) (a':=?_) #[true,true,true,true,true,true,true,true,true,true,true,true,true,true,true,true,false] rfl rfl (by kernel_rfl) (fun _ _ _ h => h) (Or.inl ⟨by rfl,?_⟩) ?_ ?_
     rotate_left
     ·intro w'
      go_simp
      with_reducible rfl
     rotate_left
     ·simp only [Act.put,List.setIfInBounds_toArray,List.set_cons_zero,List.set_cons_succ,i64_w,i32_w]
      rfl
     refine pure_ (i:=16) (N:=some 26) (v:=?_) (a':=?_) #[true,true,true,true,true,true,true,true,true,true,true,true,true,true,true,true,true] rfl rfl (by kernel_rfl) (fun _ _ _ h => h) (Or.inl ⟨by rfl,?_⟩) ?_ ?_
     rotate_left
     ·intro w'
      go_simp
      with_reducible rfl
     rotate_left
     ·simp only [Act.put,List.setIfInBounds_toArray,List.set_cons_zero,List.set_cons_succ,i64_w,i32_w]
      rfl
     refine done_ (by kernel_rfl) ?_
     obtain ⟨hk30,hk31⟩:=hkeep.out w3 ((hbT.block _ (Array.getElem?_eq_some_iff.1 (heap_alloc_new w _)).1).trans (heap_alloc_new w _))
     go_wp2_with (go_at_call 93;refine (hcSt.out _ (by first|exact pw_below_drewN (pw_below_drewN (below_step (below_drew1 hb.out) hbT) _) _|exact pw_below_drewN (below_step (below_drew1 hb.out) hbT) _)).mono ?_;rintro e wz ⟨v0,rfl,hown,hbz⟩;obtain ⟨Al,cl,rfl⟩:=Kd.R_slice hown)
     go_ret2
     have hz:=below_step (pw_below_drewN (below_step (below_drew1 hb.out) hbT) (nd + nd2)) hbz
     exact ⟨_,rfl,Kd.R_nil _ _ _ _ _,hz.alloc hz.size _⟩
    | true =>
     rw [if_pos rfl] at h
     obtain ⟨b,hok,h⟩:=Option.bind_eq_some_iff.1 h
     have HK:=Lib.hid hok
     have HF:=Lib.hid h
     have hen : ∀ args W,(callFunc 95 args).run Tryd.prog W = .ok (.enter 95 args) W:=fun args W => by go_simp
     clear hok h
     go_enter Tryd.func60,Tryd.ntmps60
     go_wp2
     refine start_ (n:=17) (S:=fun w' => w'.cell? ⟨w.heap.size,0,none⟩ = some (.int .i64 a1_0)∧w'.cell? ⟨w.heap.size,1,none⟩ = some (.slice A1_1 l1_1.length c1_1)) (ds:=[]) #[false,false,false,false,false,false,false,false,false,false,false,false,false,false,false,false,false] (by kernel_rfl) rfl rfl ⟨(hkeep.out _ (heap_alloc_new w _)).1,(hkeep.out _ (heap_alloc_new w _)).2⟩ (fun hHeld => ?_)
     refine pure_ (i:=0) (N:=some 10) (v:=?_) (a':=?_) #[true,false,false,false,false,false,false,false,false,false,false,false,false,false,false,false,false] rfl rfl (by kernel_rfl) (fun _ _ _ h => h) (Or.inl ⟨by rfl,?_⟩) ?_ ?_
     rotate_left
     ·intro w'
      go_simp
      with_reducible rfl
     rotate_left
     ·simp only [Act.put,List.setIfInBounds_toArray,List.set_cons_zero,List.set_cons_succ,i64_w,i32_w]
      rfl
     refine one_ (i:=1) (N:=some 11) #[true,true,false,false,false,false,false,false,false,false,false,false,false,false,false,false,false] rfl rfl (by kernel_rfl) (by decide) (fun K hK => ?_)
     refine goes_ Tryd.func92 (by kernel_rfl) rfl #[.slice A0 l0.length c0] (by rfl) rfl rfl (by simp only [List.map_toArray,List.map_cons,List.map_nil];rfl) ?_
     with_reducible refine (hcT.out _ (below_drew1 hb.out)).mono ?_
     rintro e w3 ⟨rfl,hbT⟩
     refine ⟨_,rfl,?_⟩
     refine hK.out _ _ ⟨(hkeep.out _ ((hbT.block _ (Array.getElem?_eq_some_iff.1 (heap_alloc_new w _)).1).trans (heap_alloc_new w _))).1,(hkeep.out _ ((hbT.block _ (Array.getElem?_eq_some_iff.1 (heap_alloc_new w _)).1).trans (heap_alloc_new w _))).2⟩ (fun hHeld => ?_)
     clear hK K
     refine norm_ (a':=?_) ?_ ?_
     rotate_left
     ·show Act.put _ (some 11) _ = _
      simp only [Act.put,List.setIfInBounds_toArray,List.set_cons_zero,List.set_cons_succ,i64_w,i32_w]
      rfl
     refine pure_ (i:=2) (N:=some 12) (v:=?_) (a':=?_) #[true,true,true,false,false,false,false,false,false,false,false,false,false,false,false,false,false] rfl rfl (by kernel_rfl) (fun _ _ _ h => h) (Or.inl ⟨by rfl,?_⟩) ?_ ?_
     rotate_left
     ·intro w'
      go_simp
      with_reducible rfl
     rotate_left
     ·simp only [Act.put,List.setIfInBounds_toArray,List.set_cons_zero,List.set_cons_succ,i64_w,i32_w]
      rfl
     refine pure_ (i:=3) (N:=some 13) (v:=?_) (a':=?_) #[true,true,true,true,false,false,false,false,false,false,false,false,false,false,false,false,false] rfl rfl (by kernel_rfl) (fun _ _ _ h => h) (Or.inl ⟨by rfl,?_⟩) ?_ ?_
     rotate_left
     ·intro w'
      go_simp
      with_reducible rfl
     rotate_left
     ·simp only [Act.put,List.setIfInBounds_toArray,List.set_cons_zero,List.set_cons_succ,i64_w,i32_w]
      rfl
     refine pure_ (i:=4) (N:=some 14) (v:=?_) (a':=?_) #[true,true,true,true,true,false,false,false,false,false,false,false,false,false,false,false,false] rfl rfl (by kernel_rfl) (fun _ _ _ h => h) (Or.inl ⟨by rfl,?_⟩) ?_ ?_
     rotate_left
     ·intro w'
      go_simp
      with_reducible rfl
     rotate_left
     ·simp only [Act.put,List.setIfInBounds_toArray,List.set_cons_zero,List.set_cons_succ,i64_w,i32_w]
      rfl
     refine take_ (i:=5) (N:=some 15) (v:=?_) (a':=?_) #[true,true,true,true,true,true,false,false,false,false,false,false,false,false,false,false,false] rfl rfl (by kernel_rfl) (fun _ _ _ h => h) (Or.inl ⟨by rfl,?_⟩) hHeld ?_ ?_
     rotate_left
     ·rintro w' ⟨s0,s1⟩
      go_simp
      with_reducible rfl
     rotate_left
     ·simp only [Act.put,List.setIfInBounds_toArray,List.set_cons_zero,List.set_cons_succ,i64_w,i32_w]
      rfl
     refine one_ (i:=6) (N:=some 16) #[true,true,true,true,true,true,true,false,false,false,false,false,false,false,false,false,false] rfl rfl (by kernel_rfl) (by decide) (fun K hK => ?_)
     refine goes_ Tryd.func69 (by kernel_rfl) rfl #[.int .i64 a1_0,.int .i64 2,.int .i64 400] (by rfl) rfl rfl (by simp only [List.map_toArray,List.map_cons,List.map_nil];rfl) ?_
     with_reducible refine (hcW.out _).mono ?_
     rintro e w4 ⟨rfl,⟨nd,rfl⟩⟩
     refine ⟨_,rfl,?_⟩
     refine hK.out _ _ ⟨(hkeep.out _ ((hbT.block _ (Array.getElem?_eq_some_iff.1 (heap_alloc_new w _)).1).trans (heap_alloc_new w _))).1,(hkeep.out _ ((hbT.block _ (Array.getElem?_eq_some_iff.1 (heap_alloc_new w _)).1).trans (heap_alloc_new w _))).2⟩ (fun hHeld => ?_)
     clear hK K
     refine norm_ (a':=?_) ?_ ?_
     rotate_left
     ·show Act.put _ (some 16) _ = _
      simp only [Act.put,List.setIfInBounds_toArray,List.set_cons_zero,List.set_cons_succ,i64_w,i32_w]
      rfl
     refine pure_ (i:=7) (N:=some 17) (v:=?_) (a':=?_) #[true,true,true,true,true,true,true,true,false,false,false,false,false,false,false,false,false] rfl rfl (by kernel_rfl) (fun _ _ _ h => h) (Or.inl ⟨by rfl,?_⟩) ?_ ?_
     rotate_left
     ·intro w'
      go_simp
      with_reducible rfl
     rotate_left
     ·simp only [Act.put,List.setIfInBounds_toArray,List.set_cons_zero,List.set_cons_succ,i64_w,i32_w]
      rfl
     refine pure_ (i:=8) (N:=some 18) (v:=?_) (a':=?_) #[true,true,true,true,true,true,true,true,true,false,false,false,false,false,false,false,false] rfl rfl (by kernel_rfl) (fun _ _ _ h => h) (Or.inl ⟨by rfl,?_⟩) ?_ ?_
     rotate_left
     ·intro w'
      go_simp
      with_reducible rfl
     rotate_left
     ·simp only [Act.put,List.setIfInBounds_toArray,List.set_cons_zero,List.set_cons_succ,i64_w,i32_w]
      rfl
     refine pure_ (i:=9) (N:=some 19) (v:=?_) (a':=?_) #[true,true,true,true,true,true,true,true,true,true,false,false,false,false,false,false,false] rfl rfl (by kernel_rfl) (fun _ _ _ h => h) (Or.inl ⟨by rfl,?_⟩) ?_ ?_
     rotate_left
     ·intro w'
      go_simp
      with_reducible rfl
     rotate_left
     ·simp only [Act.put,List.setIfInBounds_toArray,List.set_cons_zero,List.set_cons_succ,i64_w,i32_w]
      rfl
     refine pure_ (i:=10) (N:=some 20) (v:=?_) (a':=?_) #[true,true,true,true,true,true,true,true,true,true,true,false,false,false,false,false,false] rfl rfl (by kernel_rfl) (fun _ _ _ h => h) (Or.inl ⟨by rfl,?_⟩) ?_ ?_
     rotate_left
     ·intro w'
      go_simp
      with_reducible rfl
     rotate_left
     ·simp only [Act.put,List.setIfInBounds_toArray,List.set_cons_zero,List.set_cons_succ,i64_w,i32_w]
      rfl
     refine pure_ (i:=13) (N:=some 23) (v:=?_) (a':=?_) #[true,true,true,true,true,true,true,true,true,true,true,false,false,true,false,false,false] rfl rfl (by kernel_rfl) (fun _ _ _ h => h) (Or.inl ⟨by rfl,?_⟩) ?_ ?_
     rotate_left
     ·intro w'
      go_simp
      with_reducible rfl
     rotate_left
     ·simp only [Act.put,List.setIfInBounds_toArray,List.set_cons_zero,List.set_cons_succ,i64_w,i32_w]
      rfl
     refine take_ (i:=11) (N:=some 21) (v:=?_) (a':=?_) #[true,true,true,true,true,true,true,true,true,true,true,true,false,true,false,false,false] rfl rfl (by kernel_rfl) (fun _ _ _ h => h) (Or.inl ⟨by rfl,?_⟩) hHeld ?_ ?_
     rotate_left
     ·rintro w' ⟨s0,s1⟩
      go_simp
      with_reducible rfl
     rotate_left
     ·simp only [Act.put,List.setIfInBounds_toArray,List.set_cons_zero,List.set_cons_succ,i64_w,i32_w]
      rfl
     refine take_ (i:=14) (N:=some 24) (v:=?_) (a':=?_) #[true,true,true,true,true,true,true,true,true,true,true,true,false,true,true,false,false] rfl rfl (by kernel_rfl) (fun _ _ _ h => h) (Or.inl ⟨by rfl,?_⟩) hHeld ?_ ?_
     rotate_left
     ·rintro w' ⟨s0,s1⟩
      go_simp
      with_reducible rfl
     rotate_left
     ·simp only [Act.put,List.setIfInBounds_toArray,List.set_cons_zero,List.set_cons_succ,i64_w,i32_w]
      rfl
     refine one_ (i:=12) (N:=some 22) #[true,true,true,true,true,true,true,true,true,true,true,true,true,true,true,false,false] rfl rfl (by kernel_rfl) (by decide) (fun K hK => ?_)
     refine goes_ Tryd.func71 (by kernel_rfl) rfl #[.slice A1_1 l1_1.length c1_1] (by rfl) rfl rfl (by simp only [List.map_toArray,List.map_cons,List.map_nil];rfl) ?_
     with_reducible refine (hcS.out _ (pw_below_drewN (below_step (below_drew1 hb.out) hbT) _)).mono ?_
     rintro e w5 ⟨rfl,⟨nd2,rfl⟩⟩
     refine ⟨_,rfl,?_⟩
     refine hK.out _ _ ⟨(hkeep.out _ ((hbT.block _ (Array.getElem?_eq_some_iff.1 (heap_alloc_new w _)).1).trans (heap_alloc_new w _))).1,(hkeep.out _ ((hbT.block _ (Array.getElem?_eq_some_iff.1 (heap_alloc_new w _)).1).trans (heap_alloc_new w _))).2⟩ (fun hHeld => ?_)
     clear hK K
     refine norm_ (a':=?_) ?_ ?_
     rotate_left
     ·show Act.put _ (some 22) _ = _
      simp only [Act.put,List.setIfInBounds_toArray,List.set_cons_zero,List.set_cons_succ,i64_w,i32_w]
      rfl
     refine pure_ (i:=15) (N:=some 25) (v:=?_) (a':=?_) #[true,true,true,true,true,true,true,true,true,true,true,true,true,true,true,true,false] rfl rfl (by kernel_rfl) (fun _ _ _ h => h) (Or.inl ⟨by rfl,?_⟩) ?_ ?_
     rotate_left
     ·intro w'
      go_simp
      with_reducible rfl
     rotate_left
     ·simp only [Act.put,List.setIfInBounds_toArray,List.set_cons_zero,List.set_cons_succ,i64_w,i32_w]
      rfl
     refine pure_ (i:=16) (N:=some 26) (v:=?_) (a':=?_) #[true,true,true,true,true,true,true,true,true,true,true,true,true,true,true,true,true] rfl rfl (by kernel_rfl) (fun _ _ _ h => h) (Or.inl ⟨by rfl,?_⟩) ?_ ?_
     rotate_left
     ·intro w'
      go_simp
      with_reducible rfl
     rotate_left
     ·simp only [Act.put,List.setIfInBounds_toArray,List.set_cons_zero,List.set_cons_succ,i64_w,i32_w]
      rfl
     refine done_ (by kernel_rfl) ?_
     obtain ⟨hk30,hk31⟩:=hkeep.out w3 ((hbT.block _ (Array.getElem?_eq_some_iff.1 (heap_alloc_new w _)).1).trans (heap_alloc_new w _))
     go_wp2_with (go_at_call 93;refine (hcSt.out _ (by first|exact pw_below_drewN (pw_below_drewN (below_step (below_drew1 hb.out) hbT) _) _|exact pw_below_drewN (below_step (below_drew1 hb.out) hbT) _)).mono ?_;rintro e wz ⟨v0,rfl,hown,hbz⟩;obtain ⟨Al,cl,rfl⟩:=Kd.R_slice hown)
     have hz:=Lib.hid (below_step (pw_below_drewN (below_step (below_drew1 hb.out) hbT) (nd + nd2)) hbz)
     have hZ0:=Lib.hid (Kd.C_below HR0.out hz.out)
     have hZ1:=Lib.hid (Kd.C_below HR1.out hz.out)
     have hZL:=Lib.hid (Kd.R_reads' hown).2.2
     have hcl : lst.length ≤ cl:=(Kd.R_reads' hown).2.1
     have hlenL : lst.length ≤ 9223372036854775807:=hZL.out.2.1
     have hbx:=Lib.hid ((hbz.block w.heap.size (Nat.lt_of_lt_of_le (Array.getElem?_eq_some_iff.1 (heap_alloc_new w (.cells #[.int .i64 a1_0,.slice A1_1 l1_1.length c1_1] 30))).1 hbT.size)).trans ((hbT.block _ (Array.getElem?_eq_some_iff.1 (heap_alloc_new w _)).1).trans (heap_alloc_new w (.cells #[.int .i64 a1_0,.slice A1_1 l1_1.length c1_1] 30))))
     have HO:=Lib.hid (Kd.R_lower (base':=w.heap.size) hown (pw_below_drewN (below_step (below_drew1 hb.out) hbT) (nd + nd2)).size)
     clear hown hcT hcW hcS hcSt HR0 HR1 hk30 hk31
     go_wp2
     go_loopw [37] (fun v wr => ∃ i : Nat,i ≤ lst.length∧v = .int .i64 i∧Hid (headsOk k l0 a1_0 l1_1 lst (lst.drop i) = some b)∧Hid (wr.heap[wz.heap.size]? = some (.cells #[.slice Al lst.length cl] 23 (0,0)))∧Hid (Below wz.heap.size wz wr)) (fun v _ => lst.length - (intOf v).toNat)
     case atStart => exact ⟨0,by omega,rfl,Lib.hid (by simpa using HK.out),Lib.hid (heap_alloc_new wz _),Lib.hid (below_alloc (Below.refl _ _) _)⟩
     case round =>
      obtain ⟨i,hi,rfl,HA,hvar,hbr⟩:=hrel
      clear HK
      obtain ⟨hk0,hk1⟩:=hkeep.out wr ((hbr.out.block _ (Array.getElem?_eq_some_iff.1 hbx.out).1).trans hbx.out)
      by_cases hlt : i < lst.length
      ·obtain ⟨ad,rfl,hcell⟩:=Kd.at_int (Kd.C_below hZL.out hbr.out) (i : Int) (by omega) (by omega)
       rw [Int.toNat_natCast,show rd lst (i : Int) = lst[i] from by simp [rd,List.getD_eq_getElem?_getD,List.getElem?_eq_getElem hlt]] at hcell
       have ha:=HA.out
       rw [List.drop_eq_getElem_cons hlt,headsOk] at ha
       obtain ⟨⟨o1,o2⟩,ho,ha⟩:=Option.bind_eq_some_iff.1 ha
       obtain ⟨b2,hb2,ha⟩:=Option.bind_eq_some_iff.1 ha
       have hcY:=Lib.hid (fun (W : World) (hW : Below wz.heap.size wz W) => impl_youngObject.calls A0 c0 l0 a1_0 A1_1 c1_1 l1_1 lst[i] o1 o2 W (Kd.C_below hZ0.out hW) hc0 (Kd.C_below hZ1.out hW) hc1_1 ho)
       have hcO:=Lib.hid (fun (W : World) (hW : Below wz.heap.size wz W) (hv : W.heap[wz.heap.size]? = some (.cells #[.slice (some ad) lst.length cl] 23 (0,0))) (Ay : Option Addr) (cy : Nat) (hy : Kd.C (Kd.int .i64) W Ay o2.length o2) (hcy : o2.length ≤ cy) =>
        isObject_walk 95 #[.pointer (some ⟨wz.heap.size,0,none⟩)] (fun x => impl_isRef.f k x lst) A0 c0 l0 o1 Ay cy o2 b2 W (Kd.C_below hZ0.out hW) hc0 hy hcy hen
         (fun W2 x b hW2 hx => heads1_walk k x b wz.heap.size (some ad) cl lst W2 (blk_cell ((hW2.block _ (Array.getElem?_eq_some_iff.1 hv).1).trans hv) 0) (Kd.C_below (Kd.C_below hZL.out hW) hW2) hcl hx) hb2)
       have HN:=Lib.hid ha
       clear ha HA ho hb2 hen
       generalize lst[i] = x at *
       cases b2 with
       | true =>
        have hn:=HN.out
        rw [if_pos rfl] at hn
        have HN2:=Lib.hid hn
        clear hn HN
        go_wp2_with (first
         | (go_at_call 66;refine (hcY.out _ hbr.out).mono ?_;rintro e wy ⟨v1,rfl,howny,hby⟩;obtain ⟨Ay,cy,rfl⟩:=Kd.R_slice howny)
         | (go_at_call 94;refine (hcO.out _ (below_step hbr.out hby) ((hby.block _ (Array.getElem?_eq_some_iff.1 hvar.out).1).trans hvar.out) _ _ (Kd.R_reads' howny).2.2 (Kd.R_reads' howny).2.1).mono ?_;rintro e wo ⟨rfl,hbo⟩))
        go_roundw
        case rel => exact ⟨i + 1,by omega,by go_num,HN2,Lib.hid ((hbo.block _ (Nat.lt_of_lt_of_le (Array.getElem?_eq_some_iff.1 hvar.out).1 hby.size)).trans ((hby.block _ (Array.getElem?_eq_some_iff.1 hvar.out).1).trans hvar.out)),Lib.hid (below_step (below_step hbr.out hby) hbo)⟩
        case measure => simp [intOf];omega
       | false =>
        have hn:=HN.out
        rw [if_neg (by simp)] at hn
        obtain rfl:=Option.some.inj hn
        have hf:=HF.out
        rw [if_neg (by simp)] at hf
        obtain ⟨rfl,rfl⟩:=Prod.mk.inj (Option.some.inj hf)
        clear hn HN hf HF
        go_wp2_with (first
         | (go_at_call 66;refine (hcY.out _ hbr.out).mono ?_;rintro e wy ⟨v1,rfl,howny,hby⟩;obtain ⟨Ay,cy,rfl⟩:=Kd.R_slice howny)
         | (go_at_call 94;refine (hcO.out _ (below_step hbr.out hby) ((hby.block _ (Array.getElem?_eq_some_iff.1 hvar.out).1).trans hvar.out) _ _ (Kd.R_reads' howny).2.2 (Kd.R_reads' howny).2.1).mono ?_;rintro e wo ⟨rfl,hbo⟩))
        go_ret2
        exact ⟨_,rfl,Kd.R_nil _ _ _ _ _,below_step hz.out (below_step (below_step hbr.out hby) hbo)⟩
      ·have ha:=HA.out
       rw [List.drop_eq_nil_of_le (by omega),headsOk] at ha
       obtain rfl:=Option.some.inj ha
       have hf:=HF.out
       rw [if_pos rfl] at hf
       obtain ⟨rfl,rfl⟩:=Prod.mk.inj (Option.some.inj hf)
       have hvc:=blk_cell hvar.out 0
       clear ha HA hf HF hen
       go_wp2_with fail
       go_ret2
       exact ⟨_,rfl,Kd.R_below HO.out hbr.out,below_step hz.out hbr.out⟩
   ·rw [if_neg e2] at h
    obtain ⟨rfl,rfl⟩:=Prod.mk.inj (Option.some.inj h)
    clear h
    have e3 : decide (a1_0 < (l1_1.length : Int)) = true:=decide_eq_true (by omega)
    have e4 : a1_0 < (l1_1.length : Int):=by omega
    go_enter Tryd.func60,Tryd.ntmps60
    go_wp2
    refine start_ (n:=17) (S:=fun w' => w'.cell? ⟨w.heap.size,0,none⟩ = some (.int .i64 a1_0)∧w'.cell? ⟨w.heap.size,1,none⟩ = some (.slice A1_1 l1_1.length c1_1)) (ds:=[]) #[false,false,false,false,false,false,false,false,false,false,false,false,false,false,false,false,false] (by kernel_rfl) rfl rfl ⟨(hkeep.out _ (heap_alloc_new w _)).1,(hkeep.out _ (heap_alloc_new w _)).2⟩ (fun hHeld => ?_)
    refine pure_ (i:=0) (N:=some 10) (v:=?_) (a':=?_) #[true,false,false,false,false,false,false,false,false,false,false,false,false,false,false,false,false] rfl rfl (by kernel_rfl) (fun _ _ _ h => h) (Or.inl ⟨by rfl,?_⟩) ?_ ?_
    rotate_left
    ·intro w'
     go_simp
     with_reducible rfl
    rotate_left
    ·simp only [Act.put,List.setIfInBounds_toArray,List.set_cons_zero,List.set_cons_succ,i64_w,i32_w]
     rfl
    refine one_ (i:=1) (N:=some 11) #[true,true,false,false,false,false,false,false,false,false,false,false,false,false,false,false,false] rfl rfl (by kernel_rfl) (by decide) (fun K hK => ?_)
    refine goes_ Tryd.func92 (by kernel_rfl) rfl #[.slice A0 l0.length c0] (by rfl) rfl rfl (by simp only [List.map_toArray,List.map_cons,List.map_nil];rfl) ?_
    with_reducible refine (hcT.out _ (below_drew1 hb.out)).mono ?_
    rintro e w3 ⟨rfl,hbT⟩
    refine ⟨_,rfl,?_⟩
    refine hK.out _ _ ⟨(hkeep.out _ ((hbT.block _ (Array.getElem?_eq_some_iff.1 (heap_alloc_new w _)).1).trans (heap_alloc_new w _))).1,(hkeep.out _ ((hbT.block _ (Array.getElem?_eq_some_iff.1 (heap_alloc_new w _)).1).trans (heap_alloc_new w _))).2⟩ (fun hHeld => ?_)
    clear hK K
    refine norm_ (a':=?_) ?_ ?_
    rotate_left
    ·show Act.put _ (some 11) _ = _
     simp only [Act.put,List.setIfInBounds_toArray,List.set_cons_zero,List.set_cons_succ,i64_w,i32_w]
     rfl
    refine pure_ (i:=2) (N:=some 12) (v:=?_) (a':=?_) #[true,true,true,false,false,false,false,false,false,false,false,false,false,false,false,false,false] rfl rfl (by kernel_rfl) (fun _ _ _ h => h) (Or.inl ⟨by rfl,?_⟩) ?_ ?_
    rotate_left
    ·intro w'
     go_simp
     with_reducible rfl
    rotate_left
    ·simp only [Act.put,List.setIfInBounds_toArray,List.set_cons_zero,List.set_cons_succ,i64_w,i32_w]
     rfl
    refine pure_ (i:=3) (N:=some 13) (v:=?_) (a':=?_) #[true,true,true,true,false,false,false,false,false,false,false,false,false,false,false,false,false] rfl rfl (by kernel_rfl) (fun _ _ _ h => h) (Or.inl ⟨by rfl,?_⟩) ?_ ?_
    rotate_left
    ·intro w'
     go_simp
     with_reducible rfl
    rotate_left
    ·simp only [Act.put,List.setIfInBounds_toArray,List.set_cons_zero,List.set_cons_succ,i64_w,i32_w]
     rfl
    refine pure_ (i:=4) (N:=some 14) (v:=?_) (a':=?_) #[true,true,true,true,true,false,false,false,false,false,false,false,false,false,false,false,false] rfl rfl (by kernel_rfl) (fun _ _ _ h => h) (Or.inl ⟨by rfl,?_⟩) ?_ ?_
    rotate_left
    ·intro w'
     go_simp
     with_reducible rfl
    rotate_left
    ·simp only [Act.put,List.setIfInBounds_toArray,List.set_cons_zero,List.set_cons_succ,i64_w,i32_w]
     rfl
    refine take_ (i:=5) (N:=some 15) (v:=?_) (a':=?_) #[true,true,true,true,true,true,false,false,false,false,false,false,false,false,false,false,false] rfl rfl (by kernel_rfl) (fun _ _ _ h => h) (Or.inl ⟨by rfl,?_⟩) hHeld ?_ ?_
    rotate_left
    ·rintro w' ⟨s0,s1⟩
     go_simp
     with_reducible rfl
    rotate_left
    ·simp only [Act.put,List.setIfInBounds_toArray,List.set_cons_zero,List.set_cons_succ,i64_w,i32_w]
     rfl
    refine one_ (i:=6) (N:=some 16) #[true,true,true,true,true,true,true,false,false,false,false,false,false,false,false,false,false] rfl rfl (by kernel_rfl) (by decide) (fun K hK => ?_)
    refine goes_ Tryd.func69 (by kernel_rfl) rfl #[.int .i64 a1_0,.int .i64 2,.int .i64 400] (by rfl) rfl rfl (by simp only [List.map_toArray,List.map_cons,List.map_nil];rfl) ?_
    with_reducible refine (hcW.out _).mono ?_
    rintro e w4 ⟨rfl,⟨nd,rfl⟩⟩
    refine ⟨_,rfl,?_⟩
    refine hK.out _ _ ⟨(hkeep.out _ ((hbT.block _ (Array.getElem?_eq_some_iff.1 (heap_alloc_new w _)).1).trans (heap_alloc_new w _))).1,(hkeep.out _ ((hbT.block _ (Array.getElem?_eq_some_iff.1 (heap_alloc_new w _)).1).trans (heap_alloc_new w _))).2⟩ (fun hHeld => ?_)
    clear hK K
    refine norm_ (a':=?_) ?_ ?_
    rotate_left
    ·show Act.put _ (some 16) _ = _
     simp only [Act.put,List.setIfInBounds_toArray,List.set_cons_zero,List.set_cons_succ,i64_w,i32_w]
     rfl
    refine pure_ (i:=7) (N:=some 17) (v:=?_) (a':=?_) #[true,true,true,true,true,true,true,true,false,false,false,false,false,false,false,false,false] rfl rfl (by kernel_rfl) (fun _ _ _ h => h) (Or.inl ⟨by rfl,?_⟩) ?_ ?_
    rotate_left
    ·intro w'
     go_simp
     with_reducible rfl
    rotate_left
    ·simp only [Act.put,List.setIfInBounds_toArray,List.set_cons_zero,List.set_cons_succ,i64_w,i32_w]
     rfl
    refine pure_ (i:=8) (N:=some 18) (v:=?_) (a':=?_) #[true,true,true,true,true,true,true,true,true,false,false,false,false,false,false,false,false] rfl rfl (by kernel_rfl) (fun _ _ _ h => h) (Or.inl ⟨by rfl,?_⟩) ?_ ?_
    rotate_left
    ·intro w'
     go_simp
     with_reducible rfl
    rotate_left
    ·simp only [Act.put,List.setIfInBounds_toArray,List.set_cons_zero,List.set_cons_succ,i64_w,i32_w]
     rfl
    refine pure_ (i:=9) (N:=some 19) (v:=?_) (a':=?_) #[true,true,true,true,true,true,true,true,true,true,false,false,false,false,false,false,false] rfl rfl (by kernel_rfl) (fun _ _ _ h => h) (Or.inl ⟨by rfl,?_⟩) ?_ ?_
    rotate_left
    ·intro w'
     go_simp
     with_reducible rfl
    rotate_left
    ·simp only [Act.put,List.setIfInBounds_toArray,List.set_cons_zero,List.set_cons_succ,i64_w,i32_w]
     rfl
    refine pure_ (i:=10) (N:=some 20) (v:=?_) (a':=?_) #[true,true,true,true,true,true,true,true,true,true,true,false,false,false,false,false,false] rfl rfl (by kernel_rfl) (fun _ _ _ h => h) (Or.inl ⟨by rfl,?_⟩) ?_ ?_
    rotate_left
    ·intro w'
     go_simp
     with_reducible rfl
    rotate_left
    ·simp only [Act.put,List.setIfInBounds_toArray,List.set_cons_zero,List.set_cons_succ,i64_w,i32_w]
     rfl
    refine pure_ (i:=13) (N:=some 23) (v:=?_) (a':=?_) #[true,true,true,true,true,true,true,true,true,true,true,false,false,true,false,false,false] rfl rfl (by kernel_rfl) (fun _ _ _ h => h) (Or.inl ⟨by rfl,?_⟩) ?_ ?_
    rotate_left
    ·intro w'
     go_simp
     with_reducible rfl
    rotate_left
    ·simp only [Act.put,List.setIfInBounds_toArray,List.set_cons_zero,List.set_cons_succ,i64_w,i32_w]
     rfl
    refine take_ (i:=11) (N:=some 21) (v:=?_) (a':=?_) #[true,true,true,true,true,true,true,true,true,true,true,true,false,true,false,false,false] rfl rfl (by kernel_rfl) (fun _ _ _ h => h) (Or.inl ⟨by rfl,?_⟩) hHeld ?_ ?_
    rotate_left
    ·rintro w' ⟨s0,s1⟩
     go_simp
     with_reducible rfl
    rotate_left
    ·simp only [Act.put,List.setIfInBounds_toArray,List.set_cons_zero,List.set_cons_succ,i64_w,i32_w]
     rfl
    refine take_ (i:=14) (N:=some 24) (v:=?_) (a':=?_) #[true,true,true,true,true,true,true,true,true,true,true,true,false,true,true,false,false] rfl rfl (by kernel_rfl) (fun _ _ _ h => h) (Or.inl ⟨by rfl,?_⟩) hHeld ?_ ?_
    rotate_left
    ·rintro w' ⟨s0,s1⟩
     go_simp
     with_reducible rfl
    rotate_left
    ·simp only [Act.put,List.setIfInBounds_toArray,List.set_cons_zero,List.set_cons_succ,i64_w,i32_w]
     rfl
    refine one_ (i:=12) (N:=some 22) #[true,true,true,true,true,true,true,true,true,true,true,true,true,true,true,false,false] rfl rfl (by kernel_rfl) (by decide) (fun K hK => ?_)
    refine goes_ Tryd.func71 (by kernel_rfl) rfl #[.slice A1_1 l1_1.length c1_1] (by rfl) rfl rfl (by simp only [List.map_toArray,List.map_cons,List.map_nil];rfl) ?_
    with_reducible refine (hcS.out _ (pw_below_drewN (below_step (below_drew1 hb.out) hbT) _)).mono ?_
    rintro e w5 ⟨rfl,⟨nd2,rfl⟩⟩
    refine ⟨_,rfl,?_⟩
    refine hK.out _ _ ⟨(hkeep.out _ ((hbT.block _ (Array.getElem?_eq_some_iff.1 (heap_alloc_new w _)).1).trans (heap_alloc_new w _))).1,(hkeep.out _ ((hbT.block _ (Array.getElem?_eq_some_iff.1 (heap_alloc_new w _)).1).trans (heap_alloc_new w _))).2⟩ (fun hHeld => ?_)
    clear hK K
    refine norm_ (a':=?_) ?_ ?_
    rotate_left
    ·show Act.put _ (some 22) _ = _
     simp only [Act.put,List.setIfInBounds_toArray,List.set_cons_zero,List.set_cons_succ,i64_w,i32_w]
     rfl
    refine pure_ (i:=15) (N:=some 25) (v:=?_) (a':=?_) #[true,true,true,true,true,true,true,true,true,true,true,true,true,true,true,true,false] rfl rfl (by kernel_rfl) (fun _ _ _ h => h) (Or.inl ⟨by rfl,?_⟩) ?_ ?_
    rotate_left
    ·intro w'
     go_simp
     with_reducible rfl
    rotate_left
    ·simp only [Act.put,List.setIfInBounds_toArray,List.set_cons_zero,List.set_cons_succ,i64_w,i32_w]
     rfl
    refine pure_ (i:=16) (N:=some 26) (v:=?_) (a':=?_) #[true,true,true,true,true,true,true,true,true,true,true,true,true,true,true,true,true] rfl rfl (by kernel_rfl) (fun _ _ _ h => h) (Or.inl ⟨by rfl,?_⟩) ?_ ?_
    rotate_left
    ·intro w'
     go_simp
     with_reducible rfl
    rotate_left
    ·simp only [Act.put,List.setIfInBounds_toArray,List.set_cons_zero,List.set_cons_succ,i64_w,i32_w]
     rfl
    refine done_ (by kernel_rfl) ?_
    go_wp2
    go_ret2
    exact ⟨_,rfl,Kd.R_nil _ _ _ _ _,pw_below_drewN (pw_below_drewN (below_step (below_drew1 hb.out) hbT) _) _⟩
  ·rw [if_neg e1] at h
   obtain ⟨rfl,rfl⟩:=Prod.mk.inj (Option.some.inj h)
   have hcW:=Lib.hid (fun (W : World) => impl_within.calls a1_0 2 400 false W (by
    unfold impl_within.f
    split
    ·rw [decide_eq_false (by omega)]
    ·rfl))
   clear h
   go_enter Tryd.func60,Tryd.ntmps60
   go_wp2
   refine start_ (n:=17) (S:=fun w' => w'.cell? ⟨w.heap.size,0,none⟩ = some (.int .i64 a1_0)∧w'.cell? ⟨w.heap.size,1,none⟩ = some (.slice A1_1 l1_1.length c1_1)) (ds:=[]) #[false,false,false,false,false,false,false,false,false,false,false,false,false,false,false,false,false] (by kernel_rfl) rfl rfl ⟨(hkeep.out _ (heap_alloc_new w _)).1,(hkeep.out _ (heap_alloc_new w _)).2⟩ (fun hHeld => ?_)
   refine pure_ (i:=0) (N:=some 10) (v:=?_) (a':=?_) #[true,false,false,false,false,false,false,false,false,false,false,false,false,false,false,false,false] rfl rfl (by kernel_rfl) (fun _ _ _ h => h) (Or.inl ⟨by rfl,?_⟩) ?_ ?_
   rotate_left
   ·intro w'
    go_simp
    with_reducible rfl
   rotate_left
   ·simp only [Act.put,List.setIfInBounds_toArray,List.set_cons_zero,List.set_cons_succ,i64_w,i32_w]
    rfl
   refine one_ (i:=1) (N:=some 11) #[true,true,false,false,false,false,false,false,false,false,false,false,false,false,false,false,false] rfl rfl (by kernel_rfl) (by decide) (fun K hK => ?_)
   refine goes_ Tryd.func92 (by kernel_rfl) rfl #[.slice A0 l0.length c0] (by rfl) rfl rfl (by simp only [List.map_toArray,List.map_cons,List.map_nil];rfl) ?_
   with_reducible refine (hcT.out _ (below_drew1 hb.out)).mono ?_
   rintro e w3 ⟨rfl,hbT⟩
   refine ⟨_,rfl,?_⟩
   refine hK.out _ _ ⟨(hkeep.out _ ((hbT.block _ (Array.getElem?_eq_some_iff.1 (heap_alloc_new w _)).1).trans (heap_alloc_new w _))).1,(hkeep.out _ ((hbT.block _ (Array.getElem?_eq_some_iff.1 (heap_alloc_new w _)).1).trans (heap_alloc_new w _))).2⟩ (fun hHeld => ?_)
   clear hK K
   refine norm_ (a':=?_) ?_ ?_
   rotate_left
   ·show Act.put _ (some 11) _ = _
    simp only [Act.put,List.setIfInBounds_toArray,List.set_cons_zero,List.set_cons_succ,i64_w,i32_w]
    rfl
   refine pure_ (i:=2) (N:=some 12) (v:=?_) (a':=?_) #[true,true,true,false,false,false,false,false,false,false,false,false,false,false,false,false,false] rfl rfl (by kernel_rfl) (fun _ _ _ h => h) (Or.inl ⟨by rfl,?_⟩) ?_ ?_
   rotate_left
   ·intro w'
    go_simp
    with_reducible rfl
   rotate_left
   ·simp only [Act.put,List.setIfInBounds_toArray,List.set_cons_zero,List.set_cons_succ,i64_w,i32_w]
    rfl
   refine pure_ (i:=3) (N:=some 13) (v:=?_) (a':=?_) #[true,true,true,true,false,false,false,false,false,false,false,false,false,false,false,false,false] rfl rfl (by kernel_rfl) (fun _ _ _ h => h) (Or.inl ⟨by rfl,?_⟩) ?_ ?_
   rotate_left
   ·intro w'
    go_simp
    with_reducible rfl
   rotate_left
   ·simp only [Act.put,List.setIfInBounds_toArray,List.set_cons_zero,List.set_cons_succ,i64_w,i32_w]
    rfl
   refine pure_ (i:=4) (N:=some 14) (v:=?_) (a':=?_) #[true,true,true,true,true,false,false,false,false,false,false,false,false,false,false,false,false] rfl rfl (by kernel_rfl) (fun _ _ _ h => h) (Or.inl ⟨by rfl,?_⟩) ?_ ?_
   rotate_left
   ·intro w'
    go_simp
    with_reducible rfl
   rotate_left
   ·simp only [Act.put,List.setIfInBounds_toArray,List.set_cons_zero,List.set_cons_succ,i64_w,i32_w]
    rfl
   refine take_ (i:=5) (N:=some 15) (v:=?_) (a':=?_) #[true,true,true,true,true,true,false,false,false,false,false,false,false,false,false,false,false] rfl rfl (by kernel_rfl) (fun _ _ _ h => h) (Or.inl ⟨by rfl,?_⟩) hHeld ?_ ?_
   rotate_left
   ·rintro w' ⟨s0,s1⟩
    go_simp
    with_reducible rfl
   rotate_left
   ·simp only [Act.put,List.setIfInBounds_toArray,List.set_cons_zero,List.set_cons_succ,i64_w,i32_w]
    rfl
   refine one_ (i:=6) (N:=some 16) #[true,true,true,true,true,true,true,false,false,false,false,false,false,false,false,false,false] rfl rfl (by kernel_rfl) (by decide) (fun K hK => ?_)
   refine goes_ Tryd.func69 (by kernel_rfl) rfl #[.int .i64 a1_0,.int .i64 2,.int .i64 400] (by rfl) rfl rfl (by simp only [List.map_toArray,List.map_cons,List.map_nil];rfl) ?_
   with_reducible refine (hcW.out _).mono ?_
   rintro e w4 ⟨rfl,⟨nd,rfl⟩⟩
   refine ⟨_,rfl,?_⟩
   refine hK.out _ _ ⟨(hkeep.out _ ((hbT.block _ (Array.getElem?_eq_some_iff.1 (heap_alloc_new w _)).1).trans (heap_alloc_new w _))).1,(hkeep.out _ ((hbT.block _ (Array.getElem?_eq_some_iff.1 (heap_alloc_new w _)).1).trans (heap_alloc_new w _))).2⟩ (fun hHeld => ?_)
   clear hK K
   refine norm_ (a':=?_) ?_ ?_
   rotate_left
   ·show Act.put _ (some 16) _ = _
    simp only [Act.put,List.setIfInBounds_toArray,List.set_cons_zero,List.set_cons_succ,i64_w,i32_w]
    rfl
   refine pure_ (i:=7) (N:=some 17) (v:=?_) (a':=?_) #[true,true,true,true,true,true,true,true,false,false,false,false,false,false,false,false,false] rfl rfl (by kernel_rfl) (fun _ _ _ h => h) (Or.inl ⟨by rfl,?_⟩) ?_ ?_
   rotate_left
   ·intro w'
    go_simp
    with_reducible rfl
   rotate_left
   ·simp only [Act.put,List.setIfInBounds_toArray,List.set_cons_zero,List.set_cons_succ,i64_w,i32_w]
    rfl
   refine pure_ (i:=8) (N:=some 18) (v:=?_) (a':=?_) #[true,true,true,true,true,true,true,true,true,false,false,false,false,false,false,false,false] rfl rfl (by kernel_rfl) (fun _ _ _ h => h) (Or.inl ⟨by rfl,?_⟩) ?_ ?_
   rotate_left
   ·intro w'
    go_simp
    with_reducible rfl
   rotate_left
   ·simp only [Act.put,List.setIfInBounds_toArray,List.set_cons_zero,List.set_cons_succ,i64_w,i32_w]
    rfl
   refine pure_ (i:=9) (N:=some 19) (v:=?_) (a':=?_) #[true,true,true,true,true,true,true,true,true,true,false,false,false,false,false,false,false] rfl rfl (by kernel_rfl) (fun _ _ _ h => h) (Or.inl ⟨by rfl,?_⟩) ?_ ?_
   rotate_left
   ·intro w'
    go_simp
    with_reducible rfl
   rotate_left
   ·simp only [Act.put,List.setIfInBounds_toArray,List.set_cons_zero,List.set_cons_succ,i64_w,i32_w]
    rfl
   refine pure_ (i:=10) (N:=some 20) (v:=undef) (a':=?_) #[true,true,true,true,true,true,true,true,true,true,true,false,false,false,false,false,false] rfl rfl (by kernel_rfl) (fun _ _ _ h => h) (Or.inr ⟨by rfl,rfl⟩) ?_ ?_
   rotate_left
   ·simp only [Act.put,List.setIfInBounds_toArray,List.set_cons_zero,List.set_cons_succ,i64_w,i32_w]
    rfl
   refine pure_ (i:=11) (N:=some 21) (v:=undef) (a':=?_) #[true,true,true,true,true,true,true,true,true,true,true,true,false,false,false,false,false] rfl rfl (by kernel_rfl) (fun _ _ _ h => h) (Or.inr ⟨by rfl,rfl⟩) ?_ ?_
   rotate_left
   ·simp only [Act.put,List.setIfInBounds_toArray,List.set_cons_zero,List.set_cons_succ,i64_w,i32_w]
    rfl
   refine pure_ (i:=12) (N:=some 22) (v:=undef) (a':=?_) #[true,true,true,true,true,true,true,true,true,true,true,true,true,false,false,false,false] rfl rfl (by kernel_rfl) (fun _ _ _ h => h) (Or.inr ⟨by rfl,rfl⟩) ?_ ?_
   rotate_left
   ·simp only [Act.put,List.setIfInBounds_toArray,List.set_cons_zero,List.set_cons_succ,i64_w,i32_w]
    rfl
   refine pure_ (i:=13) (N:=some 23) (v:=undef) (a':=?_) #[true,true,true,true,true,true,true,true,true,true,true,true,true,true,false,false,false] rfl rfl (by kernel_rfl) (fun _ _ _ h => h) (Or.inr ⟨by rfl,rfl⟩) ?_ ?_
   rotate_left
   ·simp only [Act.put,List.setIfInBounds_toArray,List.set_cons_zero,List.set_cons_succ,i64_w,i32_w]
    rfl
   refine pure_ (i:=14) (N:=some 24) (v:=undef) (a':=?_) #[true,true,true,true,true,true,true,true,true,true,true,true,true,true,true,false,false] rfl rfl (by kernel_rfl) (fun _ _ _ h => h) (Or.inr ⟨by rfl,rfl⟩) ?_ ?_
   rotate_left
   ·simp only [Act.put,List.setIfInBounds_toArray,List.set_cons_zero,List.set_cons_succ,i64_w,i32_w]
    rfl
   refine pure_ (i:=15) (N:=some 25) (v:=undef) (a':=?_) #[true,true,true,true,true,true,true,true,true,true,true,true,true,true,true,true,false] rfl rfl (by kernel_rfl) (fun _ _ _ h => h) (Or.inr ⟨by rfl,rfl⟩) ?_ ?_
   rotate_left
   ·simp only [Act.put,List.setIfInBounds_toArray,List.set_cons_zero,List.set_cons_succ,i64_w,i32_w]
    rfl
   refine pure_ (i:=16) (N:=some 26) (v:=?_) (a':=?_) #[true,true,true,true,true,true,true,true,true,true,true,true,true,true,true,true,true] rfl rfl (by kernel_rfl) (fun _ _ _ h => h) (Or.inl ⟨by rfl,?_⟩) ?_ ?_
   rotate_left
   ·intro w'
    go_simp
    with_reducible rfl
   rotate_left
   ·simp only [Act.put,List.setIfInBounds_toArray,List.set_cons_zero,List.set_cons_succ,i64_w,i32_w]
    rfl
   refine done_ (by kernel_rfl) ?_
   go_wp2
   go_ret2
   exact ⟨_,rfl,Kd.R_nil _ _ _ _ _,pw_below_drewN (below_step (below_drew1 hb.out) hbT) _⟩


end Go.Proofs.YtgfeafcgpeclcaaDoor.X
namespace Go.Proofs.YtgfeafcgpeclcaaDoor.X
open Go.RowKit Go.Proofs.YtgfeafcgpeclcaaDoorW.PrintWords Go.Proofs.YtgfeafcgpeclcaaDoorW.PrintLast Go.Proofs.YtgfeafcgpeclcaaDoorW.PrintMore
attribute [local go_sem] max2_int min2_int max_two min_two max_three min_three max_four min_four   -- for this text's walks alone
set_option linter.unusedVariables false
set_option linter.unusedSimpArgs false

/-! ### slices_ContainsFunc_int64_int64: function 77 -/

/-- slices.IndexFunc at ANY function handed over (its number, what it has captured). -/
def anyI_Post (r : Bool) (w : World) (e : Ending) (w' : World) : Prop := ∃ n : Int, e = .returned (.int .i64 n) ∧ decide (0 ≤ n) = r ∧ Below w.heap.size w w'
set_option maxHeartbeats 1000000 in
set_option maxRecDepth 100000 in
theorem anyI_index (c : Nat) (caps : Array Value) (pf : Int → Option Bool) (A : Option Addr) (cc : Nat) (l : List Int) (w : World) (hr : Kd.C (Kd.int .i64) w A l.length l) (hc : l.length ≤ cc) (r : Bool)
    (hen : ∀ args W, (callFunc c args).run Tryd.prog W = .ok (.enter c args) W) (hcall : ∀ (W : World) (x : Int) (b : Bool), Below w.heap.size w W → pf x = some b → Calls Tryd.prog c (#[.int .i64 x] ++ caps) W fun e w' => e = .returned (.bool b) ∧ Below W.heap.size W w') (h : anyO pf l = some r) :
    Calls Tryd.prog 99 #[.slice A l.length cc, .func (.func c) #[] caps] w (anyI_Post r w) := by
  have hlen : l.length ≤ 9223372036854775807 := hr.2.1
  have HC := Lib.hid hcall
  have HR := Lib.hid hr
  clear hcall hr
  go_enter Tryd.func99, Tryd.ntmps99
  go_wp2_with fail
  go_loopw [4, 8] (fun _ v wr => ∃ i : Nat, i ≤ l.length ∧ v = .int .i64 i ∧ Hid (anyO pf (l.drop i) = some r) ∧ Hid (Below w.heap.size w wr)) (fun _ v _ => l.length - (intOf v).toNat)
  case atStart => exact ⟨0, by omega, rfl, Lib.hid (by simpa using h), Lib.hid (Below.refl _ _)⟩
  case round =>
    obtain ⟨i, hi, rfl, HA, hb⟩ := hrel
    by_cases hlt : i < l.length
    · obtain ⟨ad, rfl, hcell⟩ := Kd.at_int (Kd.C_below HR.out hb.out) (i : Int) (by omega) (by omega)
      rw [Int.toNat_natCast, show rd l (i : Int) = l[i] from by simp [rd, List.getD_eq_getElem?_getD, List.getElem?_eq_getElem hlt]] at hcell
      have ha := HA.out
      rw [List.drop_eq_getElem_cons hlt, anyO] at ha
      obtain ⟨b, hb1, hb2⟩ := Option.bind_eq_some_iff.1 ha
      have hcl := Lib.hid (fun (W : World) (hW : Below w.heap.size w W) => HC.out W l[i] b hW hb1)
      have hen2 := fun W => hen (#[.int .i64 l[i]] ++ caps) W
      have HB2 := Lib.hid hb2
      clear ha HA hb1 hb2 h
      generalize l[i] = x at *
      cases b with
      | true =>
        go_wp2_with (first | (simp only [hen2, Oper.upon_enter]; refine (hcl.out _ hb.out).mono ?_; rintro e w' ⟨rfl, hbw⟩) | (refine (hcl.out _ hb.out).mono ?_; rintro e w' ⟨rfl, hbw⟩))
        go_ret
        have hb2 : some true = some r := by simpa using HB2.out
        refine ⟨(i : Int), rfl, ?_, below_step hb.out hbw⟩
        rw [← Option.some.inj hb2]
        exact decide_eq_true (by omega)
      | false =>
        go_wp2_with (first | (simp only [hen2, Oper.upon_enter]; refine (hcl.out _ hb.out).mono ?_; rintro e w' ⟨rfl, hbw⟩) | (refine (hcl.out _ hb.out).mono ?_; rintro e w' ⟨rfl, hbw⟩))
        go_roundw
        case rel =>
          have hb2 : anyO pf (l.drop (i + 1)) = some r := by simpa using HB2.out
          exact ⟨i + 1, by omega, by go_num, Lib.hid hb2, Lib.hid (below_step hb.out hbw)⟩
        case measure => simp [intOf]; omega
    · have ha := HA.out
      rw [List.drop_eq_nil_of_le (by omega), anyO] at ha
      have ha2 := Lib.hid (Option.some.inj ha)
      clear ha HA h
      go_wp2_with fail
      go_ret
      exact ⟨-1, rfl, by rw [← ha2.out]; rfl, hb.out⟩
theorem anyI_walk (c : Nat) (caps : Array Value) (pf : Int → Option Bool) (A : Option Addr) (cc : Nat) (l : List Int) (w : World) (hr : Kd.C (Kd.int .i64) w A l.length l) (hc : l.length ≤ cc) (r : Bool)
    (hen : ∀ args W, (callFunc c args).run Tryd.prog W = .ok (.enter c args) W) (hcall : ∀ (W : World) (x : Int) (b : Bool), Below w.heap.size w W → pf x = some b → Calls Tryd.prog c (#[.int .i64 x] ++ caps) W fun e w' => e = .returned (.bool b) ∧ Below W.heap.size W w') (h : anyO pf l = some r) :
    Calls Tryd.prog 77 #[.slice A l.length cc, .func (.func c) #[] caps] w fun e w' => e = .returned (.bool r) ∧ Below w.heap.size w w' := by
  have hcl := Lib.hid (anyI_index c caps pf A cc l w hr hc r hen hcall h)
  clear h hr hcall
  go_enter Tryd.func77, Tryd.ntmps77
  go_wp2_with (go_at_call 99; refine hcl.out.mono ?_; rintro e w' ⟨n, rfl, hn, hb⟩)
  go_ret
  exact ⟨rfl, hb⟩


end Go.Proofs.YtgfeafcgpeclcaaDoor.X
namespace Go.Proofs.YtgfeafcgpeclcaaDoor.X
open Go Go.MapKept Go.ChangeMaps Go.RowKit Go.Proofs.YtgfeafcgpeclcaaDoorW.PrintWords
set_option linter.unusedVariables false
set_option linter.unusedSimpArgs false
section
variable {α : Type} {P : Program} {w : World} {b : Nat} {enc : α → Value} {f : Int → Option α}
/-- Block b is a map: at each number what f says. -/
def MapI (w : World) (b : Nat) (enc : α → Value) (f : Int → Option α) : Prop :=
  ∃ es clock, w.heap[b]? = some (.map es clock) ∧ Stamped es clock ∧ (∀ x ∈ es.toList, ∃ n v, x.key = .int .i64 n ∧ x.val = enc v ∧ f n = some v) ∧ ∀ n v, f n = some v → ∃ x ∈ es.toList, x.key = .int .i64 n ∧ x.val = enc v
theorem MapI.kept {w' : World} (h : MapI w b enc f) (hb : w'.heap[b]? = w.heap[b]?) : MapI w' b enc f := by
  obtain ⟨es, clock, h1, h2⟩ := h
  exact ⟨es, clock, hb.trans h1, h2⟩
theorem MapI.lt (h : MapI w b enc f) : b < w.heap.size := by
  obtain ⟨es, clock, h1, h2⟩ := h
  exact (Array.getElem?_eq_some_iff.1 h1).1
theorem MapI.below {w' : World} (h : MapI w b enc f) (hb : Below w.heap.size w w') : MapI w' b enc f := h.kept (hb.block b h.lt)
theorem MapI.congr {g : Int → Option α} (h : MapI w b enc f) (e : ∀ n, f n = g n) : MapI w b enc g := by
  obtain rfl : f = g := funext e
  exact h
theorem MapI.made {clock : Nat} (hb : w.heap[b]? = some (.map #[] clock)) : MapI w b enc (fun _ => none) :=
  ⟨#[], clock, hb, stamped_empty _, by simp, fun n v h => by cases h⟩
theorem MapI.no_cells (h : MapI w b enc f) {cs : Array Value} {t : Nat} {fr : Nat × Nat} {g : Nat} (hg : w.heap[g]? = some (.cells cs t fr)) : g ≠ b := by
  rintro rfl
  obtain ⟨es, clock, h1, _⟩ := h
  rw [h1] at hg
  cases hg
theorem isKey_int (n : Int) : IsKey (.int .i64) (.int .i64 n) := rfl
theorem MapI.keys {es : Array MapEntry} (h : ∀ x ∈ es.toList, ∃ n v, x.key = .int .i64 n ∧ x.val = enc v ∧ f n = some v) : ∀ x ∈ es.toList, IsKey (.int .i64) x.key := fun x hx => by
  obtain ⟨n, v, e, _⟩ := h x hx
  rw [e]
  exact isKey_int n
variable {t k e : TypeId}
theorem MapI.look (h : MapI w b enc f) (ht : P.underlying t = some (.map k e)) (hk : P.underlying k = some (.int .i64)) {z : Value} (hz : (zeroValue e).run P w = .ok z w) (n : Int) :
    (Instr.lookup t (.map (some b)) (.int .i64 n) false).run P w = .ok (((f n).map enc).getD z) w := by
  obtain ⟨es, clock, hb, hs, h1, h2⟩ := h
  rcases findNow_spec (isKey_int n) es.toList 0 (MapI.keys h1) with ⟨e1, e2⟩ | ⟨j, e0, e1, e2, e3⟩
  · have hn : f n = none := by
      cases hf : f n with
      | none => rfl
      | some v =>
        obtain ⟨x, hx, hxk, _⟩ := h2 n v hf
        exact absurd hxk (e2 x hx)
    simp [Instr.lookup, run_underlying ht, MapKept.run_getObj_map hb, MapKept.run_checkKey hk (isKey_int n), MapKept.run_findKey hk e1, hz, hn, Result.andThen]
  · obtain ⟨m, v, hm1, hm2, hm3⟩ := h1 e0 (List.mem_of_getElem? e2)
    obtain rfl : m = n := by
      rw [hm1] at e3
      injection e3
    simp [Instr.lookup, run_underlying ht, MapKept.run_getObj_map hb, MapKept.run_checkKey hk (isKey_int m), MapKept.run_findKey hk e1, hm3, hm2, Result.andThen]
theorem MapI.put (h : MapI w b enc f) (ht : P.underlying t = some (.map k e)) (hk : P.underlying k = some (.int .i64)) (n : Int) (v : α) :
    ∃ w', (Instr.mapUpdate t (.map (some b)) (.int .i64 n) (enc v)).run P w = .ok () w' ∧ MapI w' b enc (fun m => if m = n then some v else f m) ∧ w.grownBy w' (some b) ∧ w'.heap.size = w.heap.size := by
  obtain ⟨es, clock, hb, hs, h1, h2⟩ := h
  have hpair := ((stamped_iff es clock).1 hs).2.2
  rcases findNow_spec (isKey_int n) es.toList 0 (MapI.keys h1) with ⟨e1, e2⟩ | ⟨j, e0, e1, e2, e3⟩
  · refine ⟨setBlock w b (.map (es.push ⟨.int .i64 n, enc v, clock⟩) (clock + 1)), ?_, ⟨_, _, heap_setBlock_same hb _, stamped_push hs e2, ?_, ?_⟩, ⟨rfl, rfl, rfl, by simp [setBlock], fun i _ hi => heap_setBlock_other hb _ (fun e => hi (by rw [e]))⟩, by simp [setBlock]⟩
    · simp [Instr.mapUpdate, run_underlying ht, MapKept.run_getObj_map hb, MapKept.run_checkKey hk (isKey_int n), MapKept.run_findKey hk e1, MapKept.run_setObj_map _ hb, Result.andThen, setBlock]
    · intro x hx
      simp only [Array.toList_push, List.mem_append, List.mem_singleton] at hx
      rcases hx with hx | rfl
      · obtain ⟨m, u, hm1, hm2, hm3⟩ := h1 x hx
        refine ⟨m, u, hm1, hm2, ?_⟩
        have hne : m ≠ n := fun e => e2 x hx (by rw [hm1, e])
        simp only [if_neg hne, hm3]
      · exact ⟨n, v, rfl, rfl, by simp⟩
    · intro m u hm
      simp only [Array.toList_push, List.mem_append, List.mem_singleton]
      by_cases c : m = n
      · subst c
        simp only [if_true] at hm
        obtain rfl := Option.some.inj hm
        exact ⟨_, .inr rfl, rfl, rfl⟩
      · simp only [if_neg c] at hm
        obtain ⟨x, hx, hx1, hx2⟩ := h2 m u hm
        exact ⟨x, .inl hx, hx1, hx2⟩
  · have hj : es[j]? = some e0 := by simpa using e2
    have hjl : j < es.toList.length := (List.getElem?_eq_some_iff.1 e2).1
    have hkeyf : ∀ e', es[j]? = some e' → ({ e' with key := .int .i64 n, val := enc v } : MapEntry).key = e'.key := fun e' he' => by rw [hj] at he'; cases he'; exact e3.symm
    have hlist : (es.modify j (fun e' => { e' with key := .int .i64 n, val := enc v })).toList = es.toList.set j { e0 with key := .int .i64 n, val := enc v } := by
      rw [Array.toList_modify, modify_eq_set _ _ _ _ e2]
    refine ⟨setBlock w b (.map (es.modify j (fun e' => { e' with key := .int .i64 n, val := enc v })) clock), ?_, ⟨_, _, heap_setBlock_same hb _, stamped_modify hs _ _ (fun _ _ => rfl) (fun e' _ he' => hkeyf e' he'), ?_, ?_⟩, ⟨rfl, rfl, rfl, by simp [setBlock], fun i _ hi => heap_setBlock_other hb _ (fun e => hi (by rw [e]))⟩, by simp [setBlock]⟩
    · simp [Instr.mapUpdate, run_underlying ht, MapKept.run_getObj_map hb, MapKept.run_checkKey hk (isKey_int n), MapKept.run_findKey hk e1, hj, e3, MapKept.run_keyThatStays (isKey_int n), MapKept.run_setObj_map _ hb, Result.andThen, setBlock]
    · rw [hlist]
      intro x hx
      obtain ⟨i, hi, rfl⟩ := List.getElem_of_mem hx
      rw [List.getElem_set]
      split
      · exact ⟨n, v, rfl, rfl, by simp⟩
      · rename_i hne
        have hi' : i < es.toList.length := by rw [List.length_set] at hi; exact hi
        obtain ⟨m, u, hm1, hm2, hm3⟩ := h1 es.toList[i] (List.getElem_mem hi')
        refine ⟨m, u, hm1, hm2, ?_⟩
        have hmn : m ≠ n := by
          rintro rfl
          have he0 : es.toList[j] = e0 := (List.getElem?_eq_some_iff.1 e2).2
          rcases Nat.lt_or_gt_of_ne hne with c | c
          · exact List.pairwise_iff_getElem.1 hpair j i hjl hi' c (by rw [he0, e3, hm1])
          · exact List.pairwise_iff_getElem.1 hpair i j hi' hjl c (by rw [he0, e3, hm1])
        simp only [if_neg hmn, hm3]
    · rw [hlist]
      intro m u hm
      by_cases c : m = n
      · subst c
        simp only [if_true] at hm
        obtain rfl := Option.some.inj hm
        exact ⟨_, List.mem_set hjl _, rfl, rfl⟩
      · simp only [if_neg c] at hm
        obtain ⟨x, hx, hx1, hx2⟩ := h2 m u hm
        obtain ⟨i, hi, rfl⟩ := List.getElem_of_mem hx
        have hne : j ≠ i := by
          rintro rfl
          have he0 : es.toList[j] = e0 := (List.getElem?_eq_some_iff.1 e2).2
          rw [he0, e3] at hx1
          injection hx1 with _ hx1
          exact c hx1.symm
        refine ⟨es.toList[i], ?_, hx1, hx2⟩
        rw [← List.getElem_set_ne hne (l := es.toList) (a := { e0 with key := .int .i64 n, val := enc v }) (by rw [List.length_set]; exact hi)]
        exact List.getElem_mem _
end
/-- The store at the operation, for the walk: behind 'at_mapUpdate'. -/
theorem wpList_putI {α : Type} {P : Program} (w : World) {ops : Array Oper} {rest : List Oper} {o : Oper} {a : Act} {Q : Exit → Act → World → Prop}
    (hg : o.guard = none) (m x v : Operand) (t : TypeId) (hop : o.op = Op.mapUpdate t m x v) (k e : TypeId) (ht : P.underlying t = some (.map k e)) (hk : P.underlying k = some (.int .i64)) (enc : α → Value) (f : Int → Option α) (b : Nat)
    (hm : a.eval m = .map (some b)) (h : MapI w b enc f) (n : Int) (u : α) (hx : a.eval x = .int .i64 n) (hv : a.eval v = enc u)
    (hK : ∀ w', MapI w' b enc (fun m => if m = n then some u else f m) → w.grownBy w' (some b) → w'.heap.size = w.heap.size → wpList P ops Q rest (a.put o.dst undef) w') :
    wpList P ops Q (o :: rest) a w := by
  refine wpList_plain hg fun K' hK' => ?_
  obtain ⟨w', hrun, r1, r2, r3⟩ := h.put ht hk n u
  unfold Oper.wp
  simp [execOp, hop, hm, hx, hv, hrun, Result.andThen]
  exact hK' _ _ (hK w' r1 r2 r3)
end Go.Proofs.YtgfeafcgpeclcaaDoor.X
namespace Go.Proofs.YtgfeafcgpeclcaaDoor.X
open Go.RowKit Go.Proofs.YtgfeafcgpeclcaaDoorW.PrintWords Go.Proofs.YtgfeafcgpeclcaaDoorW.PrintLast Go.Proofs.YtgfeafcgpeclcaaDoorW.PrintMore
attribute [local go_sem] max2_int min2_int max_two min_two max_three min_three max_four min_four   -- for this text's walks alone
set_option linter.unusedVariables false
set_option linter.unusedSimpArgs false

/-! ### impl_youngClosure_1: function 100 -/

/-- What a set kept by a map, and a list beside it, are in memory: bs: the variable of the map, bm: the map, bo: the variable of the list. -/
structure SeeIn (base : Nat) (w : World) (bs bo bm : Nat) (v : Value) (out : List Int) : Prop where
  s : w.heap[bs]? = some (.cells #[.map (some bm)] 97 (0,0))
  m : MapI w bm Value.bool (fun n => if n ∈ out then some true else none)
  o : w.heap[bo]? = some (.cells #[v] 23 (0,0))
  r : Kd.R (Kd.int .i64) 2 w base (fun _ => True) v out
  hs : base ≤ bs
  ho : base ≤ bo
  hm : base ≤ bm
theorem SeeIn.below {base : Nat} {w w' : World} {bs bo bm : Nat} {v : Value} {out : List Int} (h : SeeIn base w bs bo bm v out) (hb : Below w.heap.size w w') : SeeIn base w' bs bo bm v out :=
  ⟨(hb.block _ (Array.getElem?_eq_some_iff.1 h.s).1).trans h.s,h.m.below hb,(hb.block _ (Array.getElem?_eq_some_iff.1 h.o).1).trans h.o,Kd.R_below h.r hb,h.hs,h.ho,h.hm⟩
theorem MapI.row_ne {α β : Type} {w : World} {b base e : Nat} {enc : α → Value} {f : Int → Option α} {d : Kd β} {ok : Nat → Prop} {v : Value} {xs : List β} (h : MapI w b enc f) (hr : Kd.R d e w base ok v xs) : some b ≠ v.ownBlock := by
  intro he
  obtain ⟨inner,ho⟩:=Kd.R_own hr
  obtain ⟨cells,hc⟩:=own_typed ho b he.symm
  exact h.no_cells hc rfl
def seeL (out : List Int) (x : Int) (y : Bool) : List Int := if y = true ∧ x ∉ out then out ++ [x] else out
/-- What a call of 'see' leaves: the set and the list with x; all else is as it was. -/
def SeePost (base : Nat) (w : World) (bs bo bm : Nat) (v : Value) (out : List Int) (e : Ending) (w' : World) : Prop :=
  e = .returned (.tuple #[])∧∃ v',SeeIn base w' bs bo bm v' out∧(v'.ownBlock = v.ownBlock ∨ ∃ b,v'.ownBlock = some b∧w.heap.size ≤ b)∧w.heap.size ≤ w'.heap.size∧(∀ k,k < w.heap.size → k≠bm → k≠bo → some k≠v.ownBlock → w'.heap[k]? = w.heap[k]?)
set_option maxHeartbeats 4000000 in
set_option maxRecDepth 100000 in
theorem see_walk (k : Nat) (x : Int) (y : Bool) (W0 w : World) (bs bo bm : Nat) (v : Value) (out : List Int) (hB : Below W0.heap.size W0 w) (hS : SeeIn W0.heap.size w bs bo bm v out) (hy : impl_isYoung.f k x = some y) (hl : out.length < 17592186044416) :
    Calls Tryd.prog 100 #[.int .i64 x,.pointer (some ⟨bs,0,none⟩),.pointer (some ⟨bo,0,none⟩)] w fun e w' => SeePost W0.heap.size w bs bo bm v (seeL out x y) e w'∧Below W0.heap.size W0 w':=by
  have hcY:=Lib.hid (fun (W : World) => impl_isYoung.calls k x y W hy)
  have HS:=Lib.hid hS
  have HB:=Lib.hid hB
  have hz : ∀ W : World,(zeroValue 4).run Tryd.prog W = .ok (.bool false) W:=fun W => by kernel_rfl
  obtain ⟨bb,hbb⟩ : ∃ bb : Bool,bb = decide (x ∈ out):=⟨_,rfl⟩
  have hK:=Lib.hid (fun (W : World) (hW : Below w.heap.size w W) => (show W.cell? ⟨bs,0,none⟩ = some (.map (some bm))∧Sem.run Tryd.prog (Instr.lookup 97 (.map (some bm)) (.int .i64 x) false) W = .ok (.bool bb) W from
    ⟨blk_cell (HS.out.below hW).s 0,by
      rw [(HS.out.below hW).m.look Tryd.underlying97 Tryd.underlying2 (hz W) x,hbb]
      by_cases c : x ∈ out
      · simp [c]
      · simp [c]⟩))
  clear hS hB hy hz
  cases y with
  | false =>
    clear hbb
    go_enter Tryd.func100,Tryd.ntmps100
    go_wp2_with (go_at_call 88;refine (hcY.out _).mono ?_;rintro e w' ⟨rfl,⟨nd,rfl⟩⟩)
    refine bodyPost_end (results_none (by rfl) _ _ _) rfl ?_
    have hb:=pw_below_drewN (Below.refl w.heap.size w) nd
    exact ⟨⟨rfl,v,by simpa [seeL] using HS.out.below hb,.inl rfl,hb.size,fun k hk _ _ _ => hb.block k hk⟩,pw_below_drewN HB.out nd⟩
  | true =>
    go_enter Tryd.func100,Tryd.ntmps100
    cases bb with
    | true =>
      have hin:=Lib.hid (show x ∈ out from of_decide_eq_true hbb.symm)
      clear hbb
      go_wp2_with (go_at_call 88;refine (hcY.out _).mono ?_;rintro e w' ⟨rfl,⟨nd,rfl⟩⟩;obtain ⟨hk1,hk2⟩:=hK.out _ (pw_below_drewN (Below.refl _ _) nd))
      refine bodyPost_end (results_none (by rfl) _ _ _) rfl ?_
      have hb:=pw_below_drewN (Below.refl w.heap.size w) nd
      exact ⟨⟨rfl,v,by simpa [seeL,hin.out] using HS.out.below hb,.inl rfl,hb.size,fun k hk _ _ _ => hb.block k hk⟩,pw_below_drewN HB.out nd⟩
    | false =>
      have hin:=Lib.hid (show x ∉ out from of_decide_eq_false hbb.symm)
      clear hbb
      obtain ⟨A,c,hv⟩:=Kd.R_slice HS.out.r
      have hne:=Lib.hid (HS.out.m.no_cells HS.out.o)
      have hne2:=Lib.hid (HS.out.m.no_cells HS.out.s)
      subst hv
      go_wp2_with (first
        | (go_at_call 88;refine (hcY.out _).mono ?_;rintro e w' ⟨rfl,⟨nd,rfl⟩⟩;obtain ⟨hk1,hk2⟩:=hK.out _ (pw_below_drewN (Below.refl _ _) nd)
           have HS2:=Lib.hid (HS.out.below (pw_below_drewN (Below.refl w.heap.size w) nd))
           obtain ⟨w2,hput,hM2,hg2,hz2⟩:=HS2.out.m.put Tryd.underlying97 Tryd.underlying2 x true
           replace hM2:=Lib.hid hM2
           replace hg2:=Lib.hid hg2
           replace hz2:=Lib.hid hz2
           have ho2:=Lib.hid (show w2.heap[bo]? = some (.cells #[.slice A out.length c] 23 (0,0)) from (hg2.out.block bo (Array.getElem?_eq_some_iff.1 HS2.out.o).1 (fun e => hne.out (Option.some.inj e))).trans HS2.out.o)
           have hr2:=Lib.hid (show Kd.R (Kd.int .i64) 2 w2 W0.heap.size (fun _ => True) (.slice A out.length c) out from Kd.R_mono (Kd.R_step (ok:=fun k => k≠bm) (Kd.R_mono (Kd.R_bound HS2.out.r) (fun k hk => by obtain ⟨_,_,_,q,_,cells,hc⟩:=hk;exact HS2.out.m.no_cells hc)) (fun k hk hlt => hg2.out.block k hlt (fun e => hk (Option.some.inj e)))) (fun _ _ => trivial))
           have hb2:=Lib.hid (show Below W0.heap.size W0 w2 from Below.grown (pw_below_drewN HB.out nd) hg2.out HB.out.size (fun k e => by obtain rfl:=Option.some.inj e;exact HS.out.hm))
           have hs2:=Lib.hid (show w2.heap[bs]? = some (.cells #[.map (some bm)] 97 (0,0)) from (hg2.out.block bs (Array.getElem?_eq_some_iff.1 HS2.out.s).1 (fun e => hne2.out (Option.some.inj e))).trans HS2.out.s)
           have hc2:=blk_cell ho2.out 0)
        | ((with_reducible refine gate_builtin (b:=.append) (xs:=#[.tmp 14,.tmp 16]) rfl ?_);at_builtin
           refine Kd.R_append (Kd.int .i64) (w0:=W0) W0.heap.size rfl (.tmp 14) (.tmp 16) 23 2 (.int .i64 0) 8 rfl Tryd.underlying23 info2 rfl (by decide) (by omega) (.slice A out.length c) out x [.int .i64 x] (fun _ => True) (fun _ => False) rfl rfl rfl (fun _ hk => hk.elim) (fun _ _ => trivial) hr2.out hb2.out hb2.out.size (by omega) ?_
           intro v3 w3 hr3 hb3 hg3 hat3
           obtain ⟨A3,c3,hv3⟩:=Kd.R_slice hr3
           subst hv3
           simp only [List.length_append,List.length_singleton] at hr3 hat3
           replace hr3:=Lib.hid hr3
           replace hb3:=Lib.hid hb3
           replace hg3:=Lib.hid hg3
           replace hat3:=Lib.hid hat3
           have ho3:=Lib.hid (show w3.heap[bo]? = some (.cells #[.slice A out.length c] 23 (0,0)) from blk_grown ho2.out hg3.out (Kd.R_ne hr2.out ho2.out (by decide)))
           have hc3:=blk_cell ho3.out 0
           have hf3:=blk_frozen ho3.out 0))
      refine bodyPost_end (results_none (by rfl) _ _ _) rfl ?_
      have hso : bs≠bo:=blk_ne HS.out.s HS.out.o (by decide)
      have hM3 : MapI w3 bm Value.bool (fun n => if n ∈ out ++ [x] then some true else none):=(hM2.out.kept (hg3.out.block bm hM2.out.lt (hM2.out.row_ne hr2.out))).congr (fun n => by
        by_cases c1 : n = x
        · subst c1;simp
        · simp [c1])
      have hs3 : w3.heap[bs]? = some (.cells #[.map (some bm)] 97 (0,0)):=blk_grown hs2.out hg3.out (Kd.R_ne hr2.out hs2.out (by decide))
      refine ⟨⟨rfl,.slice A3 (out.length + 1) c3,?_,?_,?_,?_⟩,below_set hb3.out HS.out.ho⟩
      · rw [show seeL out x true = out ++ [x] from by simp [seeL,hin.out]]
        exact ⟨blk_far hs3 hso _,hM3.kept (Below.heap_setCell _ _ _ _ (fun e => hne.out e.symm)),blk_put ho3.out 0 _ rfl,Kd.R_set hr3.out ho3.out (by decide) 0 _,HS.out.hs,HS.out.ho,HS.out.hm⟩
      · rcases hat3.out with h|⟨b,h1,h2⟩
        · exact .inl h
        · exact .inr ⟨b,h1,by rw [hz2.out] at h2;exact h2⟩
      · show w.heap.size ≤ (w3.setCell _ _).heap.size
        have h1:=hg3.out.size
        rw [hz2.out] at h1
        simpa [World.setCell] using h1
      · intro k hk h1 h2 h3
        rw [Below.heap_setCell _ _ _ _ h2,hg3.out.block k (by rw [hz2.out];exact hk) h3,hg2.out.block k hk (fun e => h1 (Option.some.inj e))]
        rfl


end Go.Proofs.YtgfeafcgpeclcaaDoor.X
namespace Go.Proofs.YtgfeafcgpeclcaaDoor.X
open Go.RowKit Go.Proofs.YtgfeafcgpeclcaaDoorW.PrintWords Go.Proofs.YtgfeafcgpeclcaaDoorW.PrintLast Go.Proofs.YtgfeafcgpeclcaaDoorW.PrintMore
attribute [local go_sem] max2_int min2_int max_two min_two max_three min_three max_four min_four   -- for this text's walks alone
set_option linter.unusedVariables false
set_option linter.unusedSimpArgs false

/-! ### impl_youngClosure: function 79 -/

/-- See each of a list. -/
def seeAll (k : Nat) : List Int → List Int → Option (List Int)
 | [],out => some out
 | x :: l,out => if out.length < 17592186044416 then (impl_isYoung.f k x).bind fun y => seeAll k l (seeL out x y) else none
/-- See the references among an object's values. -/
def seeVals (k : Nat) (types : List ByteArray) (ty : Int) : Nat → List Int → List Int → Option (List Int)
 | _,[],out => some out
 | i,x :: l,out => if 0 ≤ ty∧ty < types.length then (if i < (rdOf ByteArray.empty types ty).size then (if bt (rdOf ByteArray.empty types ty) (i : Int) = 114 then (if out.length < 17592186044416 then (impl_isYoung.f k x).bind fun y => seeVals k types ty (i + 1) l (seeL out x y) else none) else seeVals k types ty (i + 1) l out) else none) else none
/-- .. and so on for all that is found. -/
def closeL (k : Nat) (types : List ByteArray) (size : Int) (words : List Int) : Nat → Nat → List Int → Option (List Int)
 | 0,_,_ => none
 | d + 1,i,out => if i < out.length then (impl_youngObject.f types size words (wrap64 (Int.tdiv (rd out (i : Int)) 2))).bind fun o => (seeVals k types o.1 0 o.2 out).bind fun out2 => closeL k types size words d (i + 1) out2 else some out
theorem seeAll_mono (k : Nat) : ∀ (l out : List Int), LeO (seeAll k l out) (seeAll (k + 1) l out)
 | [],_ => LeO.refl _
 | x :: l,out => by
  rw [seeAll,seeAll]
  exact LeO.ite (LeO.bind (impl_isYoung.mono _ _) fun _ => seeAll_mono k l _) (LeO.refl _)
theorem seeVals_mono (k : Nat) (types : List ByteArray) (ty : Int) : ∀ (l : List Int) (i : Nat) (out : List Int), LeO (seeVals k types ty i l out) (seeVals (k + 1) types ty i l out)
 | [],_,_ => LeO.refl _
 | x :: l,i,out => by
  rw [seeVals,seeVals]
  exact LeO.ite (LeO.ite (LeO.ite (LeO.ite (LeO.bind (impl_isYoung.mono _ _) fun _ => seeVals_mono k types ty l _ _) (LeO.refl _)) (seeVals_mono k types ty l _ _)) (LeO.refl _)) (LeO.refl _)
theorem closeL_mono (k : Nat) (types : List ByteArray) (size : Int) (words : List Int) : ∀ (d i : Nat) (out : List Int), LeO (closeL k types size words d i out) (closeL (k + 1) types size words (d + 1) i out)
 | 0,_,_ => LeO.none _
 | d + 1,i,out => by
  rw [closeL,closeL]
  exact LeO.ite (LeO.bind (LeO.refl _) fun _ => LeO.bind (seeVals_mono k _ _ _ _ _) fun _ => closeL_mono k types size words d _ _) (LeO.refl _)
def impl_youngClosure.f (k : Nat) (l0 : List ByteArray) (a1 : Int) (l1 : List Int) (l2 : List Int) : Option (List Int) :=
 (seeAll k l2 []).bind fun out => closeL k l0 a1 l1 k 0 out
theorem impl_youngClosure.mono : ∀ a0 a1 a2 a3 k, LeO (impl_youngClosure.f k a0 a1 a2 a3) (impl_youngClosure.f (k + 1) a0 a1 a2 a3) := fun a0 a1 a2 a3 k =>
 LeO.bind (seeAll_mono k _ _) fun _ => closeL_mono k _ _ _ _ _ _
theorem five_alloc (w : World) (o1 o2 o3 o4 o5 : Obj) : (((((w.alloc o1).alloc o2).alloc o3).alloc o4).alloc o5).heap[w.heap.size]? = some o1 ∧ (((((w.alloc o1).alloc o2).alloc o3).alloc o4).alloc o5).heap[w.heap.size + 1 + 1]? = some o3 ∧
  (((((w.alloc o1).alloc o2).alloc o3).alloc o4).alloc o5).heap[w.heap.size + 1 + 1 + 1]? = some o4∧(((((w.alloc o1).alloc o2).alloc o3).alloc o4).alloc o5).heap[w.heap.size + 1 + 1 + 1 + 1]? = some o5∧(w.alloc o1).heap.size = w.heap.size + 1:=by
 have ha : ∀ (W : World) (o : Obj),(W.alloc o).heap = W.heap.push o:=fun _ _ => rfl
 refine ⟨?_,?_,?_,?_,by rw [ha,Array.size_push]⟩
 ·simp only [ha,Array.getElem?_push,Array.size_push]
  rw [if_neg (by omega),if_neg (by omega),if_neg (by omega),if_neg (by omega),if_pos trivial]
 ·simp only [ha,Array.getElem?_push,Array.size_push]
  rw [if_neg (by omega),if_neg (by omega),if_pos trivial]
 ·simp only [ha,Array.getElem?_push,Array.size_push]
  rw [if_neg (by omega),if_pos trivial]
 ·simp only [ha,Array.getElem?_push,Array.size_push]
  rw [if_pos trivial]
set_option maxHeartbeats 4000000 in
set_option maxRecDepth 100000 in
theorem impl_youngClosure.calls (k : Nat) (A0 : Option Addr) (c0 : Nat) (l0 : List ByteArray) (a1_0 : Int) (A1_1 : Option Addr) (c1_1 : Nat) (l1_1 : List Int) (A2 : Option Addr) (c2 : Nat) (l2 : List Int) (r : List Int) (w : World) (hr0 : Kd.C Kd.string w A0 l0.length l0) (hc0 : l0.length ≤ c0) (hr1_1 : Kd.C (Kd.int .i64) w A1_1 l1_1.length l1_1) (hc1_1 : l1_1.length ≤ c1_1) (hr2 : Kd.C (Kd.int .i64) w A2 l2.length l2) (hc2 : l2.length ≤ c2) (h : impl_youngClosure.f k l0 a1_0 l1_1 l2 = some r) :
  Calls Tryd.prog 79 #[.slice A0 l0.length c0,.agg #[.int .i64 a1_0,.slice A1_1 l1_1.length c1_1],.slice A2 l2.length c2] w fun e w' => ∃ v0_ : Value,e = .returned (v0_)∧Kd.R (Kd.int .i64) 2 w' w.heap.size (fun _ => True) v0_ r∧Below w.heap.size w w':=by
 obtain ⟨out0,ha0,h⟩:=Option.bind_eq_some_iff.1 h
 have HR0:=Lib.hid hr0
 have HR1:=Lib.hid hr1_1
 have HR2:=Lib.hid hr2
 have HA:=Lib.hid ha0
 have HL:=Lib.hid h
 have hlen0 : l0.length ≤ 9223372036854775807:=hr0.2.1
 have hlen1 : l1_1.length ≤ 9223372036854775807:=hr1_1.2.1
 have hlen2 : l2.length ≤ 9223372036854775807:=hr2.2.1
 clear hr0 hr1_1 hr2 ha0 h
 have hmm:=@run_makeMap Tryd.prog
 go_enter Tryd.func79,Tryd.ntmps79
 go_wp2
 clear hmm
 have hb1 : Below w.heap.size w (((((w.alloc (.cells #[.int .i64 a1_0,.slice A1_1 l1_1.length c1_1] 30)).alloc (.cells #[] 2)).alloc (.cells #[.slice (some ⟨w.heap.size + 1,0,none⟩) 0 0] 23)).alloc (.map #[] 0)).alloc (.cells #[.map (some (w.heap.size + 1 + 1 + 1))] 97)) :=
  below_alloc (below_alloc (below_alloc (below_alloc (below_alloc (Below.refl _ _) _) _) _) _) _
 have hN1 : (((((w.alloc (.cells #[.int .i64 a1_0,.slice A1_1 l1_1.length c1_1] 30)).alloc (.cells #[] 2)).alloc (.cells #[.slice (some ⟨w.heap.size + 1,0,none⟩) 0 0] 23)).alloc (.map #[] 0)).alloc (.cells #[.map (some (w.heap.size + 1 + 1 + 1))] 97)).heap[w.heap.size]? = some (.cells #[.int .i64 a1_0,.slice A1_1 l1_1.length c1_1] 30 (0,0)):=(five_alloc _ _ _ _ _ _).1
 have hS1 : SeeIn w.heap.size (((((w.alloc (.cells #[.int .i64 a1_0,.slice A1_1 l1_1.length c1_1] 30)).alloc (.cells #[] 2)).alloc (.cells #[.slice (some ⟨w.heap.size + 1,0,none⟩) 0 0] 23)).alloc (.map #[] 0)).alloc (.cells #[.map (some (w.heap.size + 1 + 1 + 1))] 97)) (w.heap.size + 1 + 1 + 1 + 1) (w.heap.size + 1 + 1) (w.heap.size + 1 + 1 + 1) (.slice (some ⟨w.heap.size + 1,0,none⟩) 0 0) []:=by
  refine ⟨(five_alloc _ _ _ _ _ _).2.2.2.1,(MapI.made (clock:=0) (five_alloc _ _ _ _ _ _).2.2.1).congr (fun n => by simp),(five_alloc _ _ _ _ _ _).2.1,?_,by omega,by omega,by omega⟩
  refine Kd.R_alloc (Kd.R_alloc (Kd.R_alloc ?_ _) _) _
  have h0:=World.ownsRow_made (base:=w.heap.size) (e:=2) (size:=1) (w.alloc (.cells #[.int .i64 a1_0,.slice A1_1 l1_1.length c1_1] 30)) #[] 0 (by rw [(five_alloc w _ (.map #[] 0) (.map #[] 0) (.map #[] 0) (.map #[] 0)).2.2.2.2];omega) (by decide) rfl
  rw [show (w.alloc (.cells #[.int .i64 a1_0,.slice A1_1 l1_1.length c1_1] 30)).heap.size = w.heap.size + 1 from (five_alloc w _ (.map #[] 0) (.map #[] 0) (.map #[] 0) (.map #[] 0)).2.2.2.2] at h0
  exact Kd.R_of_own h0 (fun _ _ => trivial)
 generalize (((((w.alloc (.cells #[.int .i64 a1_0,.slice A1_1 l1_1.length c1_1] 30)).alloc (.cells #[] 2)).alloc (.cells #[.slice (some ⟨w.heap.size + 1,0,none⟩) 0 0] 23)).alloc (.map #[] 0)).alloc (.cells #[.map (some (w.heap.size + 1 + 1 + 1))] 97)) = w1 at *
 generalize w.heap.size + 1 + 1 + 1 + 1 = bs at *
 generalize w.heap.size + 1 + 1 + 1 = bm at *
 generalize w.heap.size + 1 + 1 = bo at *
 generalize (.slice (some ⟨w.heap.size + 1,0,none⟩) 0 0 : Value) = v1 at *
 have HB1:=Lib.hid hb1
 have HN1:=Lib.hid hN1
 have HS1:=Lib.hid hS1
 clear hb1 hN1 hS1
 go_loopw [21] (fun v wr => ∃ i : Nat,∃ (out : List Int) (vo : Value),i ≤ l2.length∧v = .int .i64 i∧Hid (seeAll k (l2.drop i) out = some out0)∧Hid (SeeIn w.heap.size wr bs bo bm vo out)∧Hid (wr.heap[w.heap.size]? = some (.cells #[.int .i64 a1_0,.slice A1_1 l1_1.length c1_1] 30 (0,0)))∧Hid (Below w.heap.size w wr)) (fun v _ => l2.length - (intOf v).toNat)
 case atStart => exact ⟨0,[],_,by omega,rfl,Lib.hid (by simpa using HA.out),HS1,HN1,HB1⟩
 case round =>
  obtain ⟨i,out,vo,hi,rfl,HX,HS,HN,HB⟩:=hrel
  clear HA HS1 HN1 HB1
  by_cases hlt : i < l2.length
  ·obtain ⟨ad,rfl,hcell⟩:=Kd.at_int (Kd.C_below HR2.out HB.out) (i : Int) (by omega) (by omega)
   rw [Int.toNat_natCast,show rd l2 (i : Int) = l2[i] from by simp [rd,List.getD_eq_getElem?_getD,List.getElem?_eq_getElem hlt]] at hcell
   have hx:=HX.out
   rw [List.drop_eq_getElem_cons hlt,seeAll] at hx
   split at hx
   ·rename_i hol
    obtain ⟨y,hy,hx⟩:=Option.bind_eq_some_iff.1 hx
    have hc:=Lib.hid (see_walk k l2[i] y w wr bs bo bm vo out HB.out HS.out hy hol)
    have HX2:=Lib.hid hx
    clear hx HX hy
    generalize l2[i] = x at *
    go_wp2_with (go_at_call 100;refine hc.out.mono ?_;rintro e w' ⟨⟨rfl,v2,hS2,hat2,hsz2,hkp2⟩,hB2⟩;replace hS2:=Lib.hid hS2;replace hat2:=Lib.hid hat2;replace hsz2:=Lib.hid hsz2;replace hkp2:=Lib.hid hkp2;replace hB2:=Lib.hid hB2)
    go_roundw
    case rel => exact ⟨i + 1,_,v2,by omega,by go_num,HX2,hS2,Lib.hid ((hkp2.out _ (Array.getElem?_eq_some_iff.1 HN.out).1 (HS.out.m.no_cells HN.out) (blk_ne HN.out HS.out.o (by decide)) (Kd.R_ne HS.out.r HN.out (by decide))).trans HN.out),hB2⟩
    case measure => simp [intOf];omega
   ·cases hx
  ·have hx:=HX.out
   rw [List.drop_eq_nil_of_le (by omega),seeAll] at hx
   obtain rfl:=Option.some.inj hx
   clear hx HX
   go_wp2_with fail
   clear hi hlt
   have HX0:=Lib.hid HL.out
   have HSa:=HS
   have HNa:=HN
   have HBa:=HB
   clear HL HS HN HB
   go_loopg [12] k (fun gg v wr2 => ∃ d i : Nat,∃ (out : List Int) (vo : Value),d ≤ gg∧v = .int .i64 i∧Hid (closeL k l0 a1_0 l1_1 d i out = some r)∧Hid (SeeIn w.heap.size wr2 bs bo bm vo out)∧Hid (wr2.heap[w.heap.size]? = some (.cells #[.int .i64 a1_0,.slice A1_1 l1_1.length c1_1] 30 (0,0)))∧Hid (Below w.heap.size w wr2))
   case atStart => exact ⟨k,0,_,_,Nat.le_refl _,rfl,HX0,HSa,HNa,HBa⟩
   case round =>
    obtain ⟨d,i,out,vo,hd,rfl,HX,HS,HN,HB⟩:=hrel
    clear HX0 HSa HNa HBa
    obtain ⟨Ao,co,hvo⟩:=Kd.R_slice HS.out.r
    subst hvo
    have hlo : out.length ≤ 9223372036854775807:=(Kd.R_reads' HS.out.r).2.2.2.1
    have hx:=HX.out
    clear HX
    cases d with
    | zero => rw [closeL] at hx;cases hx
    | succ d =>
     rw [closeL] at hx
     by_cases hlt : i < out.length
     ·rw [if_pos hlt] at hx
      obtain ⟨ad,hAo,hcell⟩:=Kd.at_int (Kd.R_reads' HS.out.r).2.2 (i : Int) (by omega) (by omega)
      subst hAo
      rw [Int.toNat_natCast] at hcell
      obtain ⟨⟨o1,o2⟩,ho,hx⟩:=Option.bind_eq_some_iff.1 hx
      obtain ⟨out2,hv,hx⟩:=Option.bind_eq_some_iff.1 hx
      have HX2:=Lib.hid hx
      have HV:=Lib.hid hv
      have hcY:=Lib.hid (fun (W : World) (hW : Below wr.heap.size wr W) => impl_youngObject.calls A0 c0 l0 a1_0 A1_1 c1_1 l1_1 _ o1 o2 W (Kd.C_below HR0.out (below_step HB.out hW)) hc0 (Kd.C_below HR1.out (below_step HB.out hW)) hc1_1 ho)
      have hF:=Lib.hid (fun (W : World) (hW : Below wr.heap.size wr W) => (show W.cell? ⟨w.heap.size,0,none⟩ = some (.int .i64 a1_0)∧W.cell? ⟨w.heap.size,1,none⟩ = some (.slice A1_1 l1_1.length c1_1)∧W.cell? ⟨bo,0,none⟩ = some (.slice (some ad) out.length co)∧W.cell? (ad.add i) = some (.int .i64 (rd out (i : Int))) from
       ⟨blk_cell ((hW.block _ (blk_lt HN.out)).trans HN.out) 0,blk_cell ((hW.block _ (blk_lt HN.out)).trans HN.out) 1,blk_cell ((hW.block _ (blk_lt HS.out.o)).trans HS.out.o) 0,(hW.cell (World.block_lt_of_cell? wr _ hcell)).trans hcell⟩))
      clear hx hv ho hcell
      generalize rd out (i : Int) = x at *
      have hcb:=blk_cell HS.out.o 0
      go_wp2_with fail
      refine start_ (n:=10) (S:=fun w' => w'.cell? ⟨w.heap.size,0,none⟩ = some (.int .i64 a1_0)∧w'.cell? ⟨w.heap.size,1,none⟩ = some (.slice A1_1 l1_1.length c1_1)∧w'.cell? ⟨bo,0,none⟩ = some (.slice (some ad) out.length co)∧w'.cell? (ad.add i) = some (.int .i64 x)) (ds:=[9]) #[false,false,false,false,false,false,false,false,false,false] (by kernel_rfl) rfl rfl ⟨(hF.out _ (below_drew1 (Below.refl wr.heap.size wr))).1,(hF.out _ (below_drew1 (Below.refl wr.heap.size wr))).2.1,(hF.out _ (below_drew1 (Below.refl wr.heap.size wr))).2.2.1,(hF.out _ (below_drew1 (Below.refl wr.heap.size wr))).2.2.2⟩ (fun hHeld => ?_)
      refine pure_ (i:=0) (N:=some 35) (v:=?_) (a':=?_) #[true,false,false,false,false,false,false,false,false,false] rfl rfl (by kernel_rfl) (fun _ _ _ h => h) (Or.inl ⟨by rfl,?_⟩) ?_ ?_
      rotate_left
      ·intro w'
       go_simp
       with_reducible rfl
      rotate_left
      ·simp only [Act.put,List.setIfInBounds_toArray,List.set_cons_zero,List.set_cons_succ,i64_w,i32_w]
       rfl
      refine pure_ (i:=3) (N:=some 38) (v:=?_) (a':=?_) #[true,false,false,true,false,false,false,false,false,false] rfl rfl (by kernel_rfl) (fun _ _ _ h => h) (Or.inl ⟨by rfl,?_⟩) ?_ ?_
      rotate_left
      ·intro w'
       go_simp
       with_reducible rfl
      rotate_left
      ·simp only [Act.put,List.setIfInBounds_toArray,List.set_cons_zero,List.set_cons_succ,i64_w,i32_w]
       rfl
      refine take_ (i:=1) (N:=some 36) (v:=?_) (a':=?_) #[true,true,false,true,false,false,false,false,false,false] rfl rfl (by kernel_rfl) (fun _ _ _ h => h) (Or.inl ⟨by rfl,?_⟩) hHeld ?_ ?_
      rotate_left
      ·rintro w' ⟨s0,s1,s2,s3⟩
       go_simp
       with_reducible rfl
      rotate_left
      ·simp only [Act.put,List.setIfInBounds_toArray,List.set_cons_zero,List.set_cons_succ,i64_w,i32_w]
       rfl
      refine take_ (i:=2) (N:=some 37) (v:=?_) (a':=?_) #[true,true,true,true,false,false,false,false,false,false] rfl rfl (by kernel_rfl) (fun _ _ _ h => h) (Or.inl ⟨by rfl,?_⟩) hHeld ?_ ?_
      rotate_left
      ·rintro w' ⟨s0,s1,s2,s3⟩
       go_simp
       with_reducible rfl
      rotate_left
      ·simp only [Act.put,List.setIfInBounds_toArray,List.set_cons_zero,List.set_cons_succ,i64_w,i32_w]
       rfl
      refine pure_ (i:=4) (N:=some 39) (v:=?_) (a':=?_) #[true,true,true,true,true,false,false,false,false,false] rfl rfl (by kernel_rfl) (fun _ _ _ h => h) (Or.inl ⟨by rfl,?_⟩) ?_ ?_
      rotate_left
      ·intro w'
       go_simp
       with_reducible rfl
      rotate_left
      ·simp only [Act.put,List.setIfInBounds_toArray,List.set_cons_zero,List.set_cons_succ,i64_w,i32_w]
       rfl
      refine take_ (i:=5) (N:=some 40) (v:=?_) (a':=?_) #[true,true,true,true,true,true,false,false,false,false] rfl rfl (by kernel_rfl) (fun _ _ _ h => h) (Or.inl ⟨by rfl,?_⟩) hHeld ?_ ?_
      rotate_left
      ·rintro w' ⟨s0,s1,s2,s3⟩
       go_simp
       with_reducible rfl
      rotate_left
      ·simp only [Act.put,List.setIfInBounds_toArray,List.set_cons_zero,List.set_cons_succ,i64_w,i32_w]
       rfl
      refine pure_ (i:=6) (N:=some 41) (v:=?_) (a':=?_) #[true,true,true,true,true,true,true,false,false,false] rfl rfl (by kernel_rfl) (fun _ _ _ h => h) (Or.inl ⟨by rfl,?_⟩) ?_ ?_
      rotate_left
      ·intro w'
       go_simp
       with_reducible rfl
      rotate_left
      ·simp only [Act.put,List.setIfInBounds_toArray,List.set_cons_zero,List.set_cons_succ,i64_w,i32_w]
       rfl
      refine join_ (σ:=Value × Nat) 1 #[true,true,true,true,true,true,true,true,true,false] (fun s_ => [(42,.agg #[.int .i64 o1,s_.1]),(13,.pointer (some ⟨s_.2,0,none⟩))]) (fun s_ w' => (w'.cell? ⟨w.heap.size,0,none⟩ = some (.int .i64 a1_0)∧w'.cell? ⟨w.heap.size,1,none⟩ = some (.slice A1_1 l1_1.length c1_1)∧w'.cell? ⟨bo,0,none⟩ = some (.slice (some ad) out.length co)∧w'.cell? (ad.add i) = some (.int .i64 x))∧Kd.R (Kd.int .i64) 2 w' wr.heap.size (fun _ => True) s_.1 o2∧w'.heap[s_.2]? = some (.cells #[.int .i64 0,.slice none 0 0] 40 (0,0))∧wr.heap.size ≤ s_.2∧Below wr.heap.size wr w') ?_ ?_
      rotate_left
      ·intro hCont
       refine two_ (i:=7) (j:=8) (Ni:=some 42) (Nj:=some 13) #[true,true,true,true,true,true,true,true,false,false] #[true,true,true,true,true,true,true,false,true,false] rfl rfl rfl rfl (by kernel_rfl) (by decide) (by decide) (fun K hK => ?_) (fun K hK => ?_)
       ·skip
        refine goes_ Tryd.func66 (by kernel_rfl) rfl #[.slice A0 l0.length c0,.agg #[.int .i64 a1_0,.slice A1_1 l1_1.length c1_1],.int .i64 (wrap64 (Int.tdiv x 2))] (by rfl) rfl rfl (by simp only [List.map_toArray,List.map_cons,List.map_nil];rfl) ?_
        with_reducible refine (hcY.out _ (below_drew1 (Below.refl wr.heap.size wr))).mono ?_
        rintro e w3 ⟨v1,rfl,ho0,hb⟩
        refine ⟨_,rfl,?_⟩
        have hb1:=below_step (below_drew1 (Below.refl wr.heap.size wr)) hb
        have hR1:=Kd.R_lower (base':=wr.heap.size) ho0 (Nat.le_refl _)
        refine hK.out _ _ ⟨(hF.out _ hb1).1,(hF.out _ hb1).2.1,(hF.out _ hb1).2.2.1,(hF.out _ hb1).2.2.2⟩ (fun hHeld => ?_)
        clear hK K
        refine norm_ (a':=?_) ?_ ?_
        rotate_left
        ·show Act.put _ (some 42) _ = _
         simp only [Act.put,List.setIfInBounds_toArray,List.set_cons_zero,List.set_cons_succ,i64_w,i32_w]
         rfl
        refine one_ (i:=8) (N:=some 13) #[true,true,true,true,true,true,true,true,true,false] rfl rfl (by kernel_rfl) (by decide) (fun K hK => ?_)
        refine box_step ?hg (N:=13) ?hd (cs:=#[.int .i64 0,.slice none 0 0]) (t:=40) ?hr ?_;(case hd => rfl);(case hg => rfl);(case hr => first|(go_simp;done)|(go_simp;rfl))
        intro gb hg w4 hbox hb2
        have hb3:=below_step hb1 hb2
        refine hK.out _ _ ⟨(hF.out _ hb3).1,(hF.out _ hb3).2.1,(hF.out _ hb3).2.2.1,(hF.out _ hb3).2.2.2⟩ (fun hHeld => ?_)
        clear hK K
        refine norm_ (a':=?_) ?_ ?_
        rotate_left
        ·show Act.put _ (some 13) _ = _
         simp only [Act.put,List.setIfInBounds_toArray,List.set_cons_zero,List.set_cons_succ,i64_w,i32_w]
         rfl
        exact norm_ (by simp only [putAll,Act.put,List.setIfInBounds_toArray,List.set_cons_zero,List.set_cons_succ]) (hCont (v1,gb) _ ⟨hHeld,Kd.R_below hR1 hb2,hbox,(by rw [hg];exact hb1.size),hb3⟩)
       ·skip
        refine box_step ?hg (N:=13) ?hd (cs:=#[.int .i64 0,.slice none 0 0]) (t:=40) ?hr ?_;(case hd => rfl);(case hg => rfl);(case hr => first|(go_simp;done)|(go_simp;rfl))
        intro gb hg w3 hbox hb
        have hb1:=below_step (below_drew1 (Below.refl wr.heap.size wr)) hb
        refine hK.out _ _ ⟨(hF.out _ hb1).1,(hF.out _ hb1).2.1,(hF.out _ hb1).2.2.1,(hF.out _ hb1).2.2.2⟩ (fun hHeld => ?_)
        clear hK K
        refine norm_ (a':=?_) ?_ ?_
        rotate_left
        ·show Act.put _ (some 13) _ = _
         simp only [Act.put,List.setIfInBounds_toArray,List.set_cons_zero,List.set_cons_succ,i64_w,i32_w]
         rfl
        refine one_ (i:=7) (N:=some 42) #[true,true,true,true,true,true,true,true,true,false] rfl rfl (by kernel_rfl) (by decide) (fun K hK => ?_)
        refine goes_ Tryd.func66 (by kernel_rfl) rfl #[.slice A0 l0.length c0,.agg #[.int .i64 a1_0,.slice A1_1 l1_1.length c1_1],.int .i64 (wrap64 (Int.tdiv x 2))] (by rfl) rfl rfl (by simp only [List.map_toArray,List.map_cons,List.map_nil];rfl) ?_
        with_reducible refine (hcY.out _ hb1).mono ?_
        rintro e w4 ⟨v1,rfl,ho0,hb2⟩
        refine ⟨_,rfl,?_⟩
        have hb3:=below_step hb1 hb2
        have hR1:=Kd.R_lower (base':=wr.heap.size) ho0 hb1.size
        have hbox2:=blk_below hbox hb2
        refine hK.out _ _ ⟨(hF.out _ hb3).1,(hF.out _ hb3).2.1,(hF.out _ hb3).2.2.1,(hF.out _ hb3).2.2.2⟩ (fun hHeld => ?_)
        clear hK K
        refine norm_ (a':=?_) ?_ ?_
        rotate_left
        ·show Act.put _ (some 42) _ = _
         simp only [Act.put,List.setIfInBounds_toArray,List.set_cons_zero,List.set_cons_succ,i64_w,i32_w]
         rfl
        exact norm_ (by simp only [putAll,Act.put,List.setIfInBounds_toArray,List.set_cons_zero,List.set_cons_succ]) (hCont (v1,gb) _ ⟨hHeld,hR1,hbox2,(by rw [hg];exact Nat.le_refl _),hb3⟩)
      rintro ⟨v1,gb⟩ w5 ⟨hHeld,hR5,hbox5,hge5,hb5⟩
      obtain ⟨Ay,cy,ey⟩:=Kd.R_slice hR5
      subst ey
      refine norm_ (a':=?_) ?_ ?_
      rotate_left
      ·simp only [putAll,Act.put,List.setIfInBounds_toArray,List.set_cons_zero,List.set_cons_succ]
       rfl
      refine last_ (i:=9) (N:=none) #[true,true,true,true,true,true,true,true,true,true] rfl rfl (by kernel_rfl) (by decide) (fun K hK => ?_)
      have hs5 : w5.cell? ⟨gb,0,none⟩ = some (.int .i64 0):=(blk_cell hbox5 0).trans rfl
      have hs6 : w5.cell? ⟨gb,1,none⟩ = some (.slice none 0 0):=(blk_cell hbox5 1).trans rfl
      have hf5:=blk_frozen hbox5 0
      have hf6:=blk_frozen hbox5 1
      refine skip_ (w1:=?_) (by rfl) rfl ?_ ?_
      rotate_left
      ·go_simp
       rfl
      refine hK.out _ _ ?_
      clear hK K
      refine done_ (by kernel_rfl) ?_
      have hg6:=Lib.hid (show ((w5.setCell ⟨gb,0,none⟩ (.int .i64 o1)).setCell ⟨gb,1,none⟩ (.slice Ay o2.length cy)).heap[gb]? = some (.cells #[.int .i64 o1,.slice Ay o2.length cy] 40 (0,0)) from blk_put (cs:=#[.int .i64 o1,.slice none 0 0]) (blk_put hbox5 0 _ rfl) 1 _ rfl)
      have hb6 : Below wr.heap.size wr ((w5.setCell ⟨gb,0,none⟩ (.int .i64 o1)).setCell ⟨gb,1,none⟩ (.slice Ay o2.length cy)):=below_set (below_set hb5 hge5) hge5
      have hR6:=Lib.hid (show Kd.R (Kd.int .i64) 2 ((w5.setCell ⟨gb,0,none⟩ (.int .i64 o1)).setCell ⟨gb,1,none⟩ (.slice Ay o2.length cy)) w.heap.size (fun k => k≠bm∧k≠bo∧some k≠(.slice (some ad) out.length co : Value).ownBlock) (.slice Ay o2.length cy) o2 from
       Kd.R_lower (Kd.R_mono (Kd.R_bound (Kd.R_set (Kd.R_set hR5 hbox5 (by decide) 0 _) (blk_put hbox5 0 _ rfl) (by decide) 1 _)) (fun k hk => ⟨fun e => by have h1:=HS.out.m.lt;have h2:=hk.2.1;omega,fun e => by have h1:=blk_lt HS.out.o;have h2:=hk.2.1;omega,fun e => by have h1:=Kd.R_lt HS.out.r k e.symm;have h2:=hk.2.1;omega⟩)) HB.out.size)
      have HS6:=Lib.hid (HS.out.below hb6)
      have HN6:=Lib.hid ((hb6.block _ (blk_lt HN.out)).trans HN.out)
      have HB6:=Lib.hid (below_step HB.out hb6)
      clear hHeld hR5 hbox5 hge5 hb5 hb6 hcY hF HS HN HB hcb hs5 hs6 hf5 hf6
      generalize (w5.setCell ⟨gb,0,none⟩ (.int .i64 o1)).setCell ⟨gb,1,none⟩ (.slice Ay o2.length cy) = w6 at *
      have hc6:=blk_cell hg6.out 1
      go_wp2_with fail
      clear hc6
      go_loopw [46] (fun v wr3 => ∃ j : Nat,∃ (out3 : List Int) (v3 : Value),j ≤ o2.length∧v = .int .i64 j∧Hid (seeVals k l0 o1 j (o2.drop j) out3 = some out2)∧Hid (SeeIn w.heap.size wr3 bs bo bm v3 out3)∧Hid (Kd.R (Kd.int .i64) 2 wr3 w.heap.size (fun k => k≠bm∧k≠bo∧some k≠v3.ownBlock) (.slice Ay o2.length cy) o2)∧Hid (wr3.heap[gb]? = some (.cells #[.int .i64 o1,.slice Ay o2.length cy] 40 (0,0)))∧Hid (wr3.heap[w.heap.size]? = some (.cells #[.int .i64 a1_0,.slice A1_1 l1_1.length c1_1] 30 (0,0)))∧Hid (Below w.heap.size w wr3)) (fun v _ => o2.length - (intOf v).toNat)
      case atStart => exact ⟨0,out,_,by omega,rfl,Lib.hid (by simpa using HV.out),HS6,hR6,hg6,HN6,HB6⟩
      case round =>
       obtain ⟨j,out3,v3,hj,rfl,HX,HS,HRv,HG,HN,HB⟩:=hrel
       clear HV HS6 hR6 hg6 HN6 HB6
       have hlv : o2.length ≤ 9223372036854775807:=(Kd.R_reads' HRv.out).2.2.2.1
       by_cases hlt2 : j < o2.length
       ·obtain ⟨ad2,hAy,hcell⟩:=Kd.at_int (Kd.R_reads' HRv.out).2.2 (j : Int) (by omega) (by omega)
        subst hAy
        rw [Int.toNat_natCast,show rd o2 (j : Int) = o2[j] from by simp [rd,List.getD_eq_getElem?_getD,List.getElem?_eq_getElem hlt2]] at hcell
        have hx:=HX.out
        clear HX
        rw [List.drop_eq_getElem_cons hlt2,seeVals] at hx
        split at hx
        ·rename_i e0
         obtain ⟨adT,hA0,hcT⟩:=Kd.at_string (Kd.C_below HR0.out HB.out) o1 e0.1 e0.2
         subst hA0
         have p1_:=eq_true e0.1
         have p2_:=eq_true e0.2
         split at hx
         ·rename_i hit
          have HX:=Lib.hid hx
          clear hx
          generalize rdOf ByteArray.empty l0 o1 = t at *
          generalize o2[j] = y at *
          have hbt : ((t[j]'hit).toNat : Int) = bt t (j : Int):=by simpa using bt_at t (j : Int) (by simpa using hit)
          have hcg:=blk_cell HG.out 0
          by_cases c1_ : bt t (j : Int) = 114
          ·have c2_ : (bt t (j : Int) == 114) = true:=beq_iff_eq.mpr c1_
           have hx:=HX.out
           rw [if_pos c1_] at hx
           split at hx
           ·rename_i hol
            obtain ⟨z,hz,hx⟩:=Option.bind_eq_some_iff.1 hx
            have hc:=Lib.hid (see_walk k y z w wr bs bo bm v3 out3 HB.out HS.out hz hol)
            have HX3:=Lib.hid hx
            clear hx hz HX
            go_wp2_with (go_at_call 100;refine hc.out.mono ?_;rintro e w' ⟨⟨rfl,v2,hS2,hat2,hsz2,hkp2⟩,hB2⟩;replace hS2:=Lib.hid hS2;replace hat2:=Lib.hid hat2;replace hsz2:=Lib.hid hsz2;replace hkp2:=Lib.hid hkp2;replace hB2:=Lib.hid hB2)
            go_roundw
            case rel =>
             refine ⟨j + 1,_,v2,by omega,by go_num,HX3,hS2,Lib.hid ?_,Lib.hid ((hkp2.out _ (blk_lt HG.out) (HS.out.m.no_cells HG.out) (blk_ne HG.out HS.out.o (by decide)) (Kd.R_ne HS.out.r HG.out (by decide))).trans HG.out),Lib.hid ((hkp2.out _ (blk_lt HN.out) (HS.out.m.no_cells HN.out) (blk_ne HN.out HS.out.o (by decide)) (Kd.R_ne HS.out.r HN.out (by decide))).trans HN.out),hB2⟩
             refine Kd.R_mono (Kd.R_step (Kd.R_bound HRv.out) (fun k hk hlt => hkp2.out k hlt hk.1.1 hk.1.2.1 hk.1.2.2)) (fun k hk => ⟨hk.1.1,hk.1.2.1,?_⟩)
             rcases hat2.out with h|⟨b,h1,h2⟩
             ·rw [h];exact hk.1.2.2
             ·rw [h1]
              intro e
              have h3:=Option.some.inj e
              have h4:=hk.2.2.1
              omega
            case measure => simp [intOf];omega
           ·cases hx
          ·have c2_ : (bt t (j : Int) == 114) = false:=beq_eq_false_iff_ne.mpr c1_
           have HX3:=Lib.hid (show seeVals k l0 o1 (j + 1) (o2.drop (j + 1)) out3 = some out2 from by have hx:=HX.out;rw [if_neg c1_] at hx;exact hx)
           clear HX
           go_wp2_with fail
           go_roundw
           case rel => exact ⟨j + 1,out3,v3,by omega,by go_num,HX3,HS,HRv,HG,HN,HB⟩
           case measure => simp [intOf];omega
         ·cases hx
        ·cases hx
       ·have hx:=HX.out
        rw [List.drop_eq_nil_of_le (by omega),seeVals] at hx
        have hx:=Lib.hid (Option.some.inj hx)
        clear HX
        go_wp2_with fail
        go_roundg d
        case measure => omega
        case rel => exact ⟨d,i + 1,out2,v3,Nat.le_refl _,by go_num,HX2,hx.out ▸ HS,HN,HB⟩
     ·rw [if_neg hlt] at hx
      obtain rfl:=Option.some.inj hx
      have hcb:=blk_cell HS.out.o 0
      clear hx
      go_wp2_with fail
      go_ret
      exact ⟨_,rfl,HS.out.r,HB.out⟩


end Go.Proofs.YtgfeafcgpeclcaaDoor.X
namespace Go.Proofs.YtgfeafcgpeclcaaDoor.X
open Go.RowKit Go.Proofs.YtgfeafcgpeclcaaDoorW.PrintWords Go.Proofs.YtgfeafcgpeclcaaDoorW.PrintLast Go.Proofs.YtgfeafcgpeclcaaDoorW.PrintMore
attribute [local go_sem] max2_int min2_int max_two min_two max_three min_three max_four min_four   -- for this text's walks alone
set_option linter.unusedVariables false
set_option linter.unusedSimpArgs false

/-! ### impl_YoungClosure: function 45 -/

theorem yclos1_walk (k : Nat) (x : Int) (b : Bool) (B : Nat) (A : Option Addr) (c : Nat) (l : List Int) (w : World) (hc : w.cell? ⟨B, 0, none⟩ = some (.slice A l.length c)) (hr : Kd.C (Kd.int .i64) w A l.length l) (hcl : l.length ≤ c) (h : (impl_isRef.f k x l).map (!·) = some b) :
    Calls Tryd.prog 78 #[.int .i64 x,.pointer (some ⟨B,0,none⟩)] w fun e w' => e = .returned (.bool b)∧Below w.heap.size w w':=by
  obtain ⟨b2,h2,hb2⟩:=Option.map_eq_some_iff.1 h
  subst hb2
  have hcall:=Lib.hid (fun (W : World) (hW : Below w.heap.size w W) => impl_isRef.calls k x A c l b2 W (Kd.C_below hr hW) hcl h2)
  clear h2
  clear hr h
  go_enter Tryd.func78,Tryd.ntmps78
  go_wp2_with (go_at_call 74;refine (hcall.out _ (by first|exact Below.refl _ _|exact pw_below_drewN (Below.refl _ _) _)).mono ?_;rintro e w' ⟨rfl,⟨nd,rfl⟩⟩)
  go_ret
  exact ⟨rfl,pw_below_drewN (Below.refl _ _) _⟩
def impl_YoungClosure.f (k : Nat) (l0 : List ByteArray) (a1 : Int) (l1 : List Int) (l2 : List Int) : Option (List Int × Bool) :=
  (impl_heads.f k l0 a1 l1).bind fun p => if p.2 = true then (if l2.length ≤ 400 then (anyO (fun x => (impl_isRef.f k x p.1).map (!·)) l2).bind fun b => if b = true then some ([],false) else (impl_youngClosure.f k l0 a1 l1 l2).bind fun r => some (r,true) else some ([],false)) else some ([],false)
theorem impl_YoungClosure.mono : ∀ a0 a1 a2 a3 k, LeO (impl_YoungClosure.f k a0 a1 a2 a3) (impl_YoungClosure.f (k + 1) a0 a1 a2 a3) := fun a0 a1 a2 a3 k =>
  LeO.bind (impl_heads.mono _ _ _ _) fun p => LeO.ite (LeO.ite (LeO.bind (anyO_mono (fun x => by
    intro r hr
    obtain ⟨b,hb,e⟩:=Option.map_eq_some_iff.1 hr
    exact Option.map_eq_some_iff.2 ⟨b,impl_isRef.mono _ _ _ _ hb,e⟩) _) fun _ => LeO.ite (LeO.refl _) (LeO.bind (impl_youngClosure.mono _ _ _ _ _) fun _ => LeO.refl _)) (LeO.refl _)) (LeO.refl _)
set_option maxHeartbeats 4000000 in
set_option maxRecDepth 100000 in
theorem impl_YoungClosure.calls (k : Nat) (A0 : Option Addr) (c0 : Nat) (l0 : List ByteArray) (a1_0 : Int) (A1_1 : Option Addr) (c1_1 : Nat) (l1_1 : List Int) (A2 : Option Addr) (c2 : Nat) (l2 : List Int) (r1 : List Int) (r2 : Bool) (w : World) (hr0 : Kd.C Kd.string w A0 l0.length l0) (hc0 : l0.length ≤ c0) (hr1_1 : Kd.C (Kd.int .i64) w A1_1 l1_1.length l1_1) (hc1_1 : l1_1.length ≤ c1_1) (hr2 : Kd.C (Kd.int .i64) w A2 l2.length l2) (hc2 : l2.length ≤ c2) (h : impl_YoungClosure.f k l0 a1_0 l1_1 l2 = some (r1, r2)) :
    Calls Tryd.prog 45 #[.slice A0 l0.length c0,.agg #[.int .i64 a1_0,.slice A1_1 l1_1.length c1_1],.slice A2 l2.length c2] w fun e w' => ∃ v0_ : Value,e = .returned (.tuple #[v0_,.bool r2])∧Kd.R (Kd.int .i64) 2 w' w.heap.size (fun _ => True) v0_ r1∧Below w.heap.size w w':=by
  obtain ⟨⟨lst,ok⟩,hh,h⟩:=Option.bind_eq_some_iff.1 h
  have HR0:=Lib.hid hr0
  have HR1:=Lib.hid hr1_1
  have HR2:=Lib.hid hr2
  have hlen0 : l0.length ≤ 9223372036854775807:=hr0.2.1
  have hlen1 : l1_1.length ≤ 9223372036854775807:=hr1_1.2.1
  have hlen2 : l2.length ≤ 9223372036854775807:=hr2.2.1
  clear hr0 hr1_1 hr2
  have hb:=Lib.hid (below_alloc (Below.refl w.heap.size w) (.cells #[.int .i64 a1_0,.slice A1_1 l1_1.length c1_1] 30))
  have hcH:=Lib.hid (fun (W : World) (hW : Below w.heap.size w W) => impl_heads.calls k A0 c0 l0 a1_0 A1_1 c1_1 l1_1 lst ok W (Kd.C_below HR0.out hW) hc0 (Kd.C_below HR1.out hW) hc1_1 hh)
  have hN:=Lib.hid (heap_alloc_new w (.cells #[.int .i64 a1_0,.slice A1_1 l1_1.length c1_1] 30))
  have HH:=Lib.hid h
  clear hh h
  cases ok with
  | false =>
    have h:=HH.out
    rw [if_neg (by simp)] at h
    obtain ⟨rfl,rfl⟩:=Prod.mk.inj (Option.some.inj h)
    clear h HH
    go_enter Tryd.func45,Tryd.ntmps45
    go_wp2_with (go_at_call 60;refine (hcH.out _ hb.out).mono ?_;rintro e wz ⟨v0,rfl,hown,hbz⟩;obtain ⟨Al,cl,rfl⟩:=Kd.R_slice hown)
    go_ret2
    have hz:=below_step hb.out hbz
    exact ⟨_,rfl,Kd.R_nil _ _ _ _ _,hz.alloc hz.size _⟩
  | true =>
    have h:=HH.out
    rw [if_pos rfl] at h
    by_cases e1 : l2.length ≤ 400
    · rw [if_pos e1] at h
      have e2 : decide (400 < (l2.length : Int)) = false:=decide_eq_false (by omega)
      have e3 : ¬ (400 < (l2.length : Int)):=by omega
      obtain ⟨b,hbb,h⟩:=Option.bind_eq_some_iff.1 h
      have HK:=Lib.hid hbb
      have HF:=Lib.hid h
      have hen : ∀ args W,(callFunc 78 args).run Tryd.prog W = .ok (.enter 78 args) W:=fun args W => by go_simp
      have hen:=Lib.hid hen
      clear hbb h HH
      cases b with
      | true =>
        have h:=HF.out
        rw [if_pos rfl] at h
        obtain ⟨rfl,rfl⟩:=Prod.mk.inj (Option.some.inj h)
        clear h HF
        go_enter Tryd.func45,Tryd.ntmps45
        go_wp2_with (first
          | (go_at_call 60;refine (hcH.out _ hb.out).mono ?_;rintro e wz ⟨v0,rfl,hown,hbz⟩;obtain ⟨Al,cl,rfl⟩:=Kd.R_slice hown
             have hba:=Lib.hid (below_alloc (below_step hb.out hbz) (.cells #[.slice Al lst.length cl] 23))
             have hLa:=Lib.hid (Kd.C_below (Kd.R_reads' hown).2.2 (below_alloc (Below.refl wz.heap.size wz) (.cells #[.slice Al lst.length cl] 23)))
             have hcla:=Lib.hid (Kd.R_reads' hown).2.1
             have hva:=Lib.hid (heap_alloc_new wz (.cells #[.slice Al lst.length cl] 23))
             have hNa:=Lib.hid (show (wz.alloc (.cells #[.slice Al lst.length cl] 23)).heap[w.heap.size]? = some (.cells #[.int .i64 a1_0,.slice A1_1 l1_1.length c1_1] 30 (0,0)) from blk_alloc ((hbz.block _ (blk_lt hN.out)).trans hN.out) _)
             clear hown hbz)
          | (go_at_call 77;refine (anyI_walk 78 #[.pointer (some ⟨wz.heap.size,0,none⟩)] _ A2 c2 l2 _ (Kd.C_below HR2.out hba.out) hc2 _ hen.out (fun W x b hW hx => yclos1_walk k x b wz.heap.size Al cl lst W (blk_cell ((hW.block _ (blk_lt hva.out)).trans hva.out) 0) (Kd.C_below hLa.out hW) hcla.out hx) HK.out).mono ?_;rintro e wb ⟨rfl,hbc⟩
             have hcb0:=blk_cell ((hbc.block _ (blk_lt hNa.out)).trans hNa.out) 0
             have hcb1:=blk_cell ((hbc.block _ (blk_lt hNa.out)).trans hNa.out) 1
             have hbb2:=Lib.hid (below_step hba.out hbc)
             clear hbc))
        go_ret2
        exact ⟨_,rfl,Kd.R_nil _ _ _ _ _,hbb2.out⟩
      | false =>
        have h:=HF.out
        rw [if_neg (by simp)] at h
        obtain ⟨r,hy,h⟩:=Option.bind_eq_some_iff.1 h
        obtain ⟨rfl,rfl⟩:=Prod.mk.inj (Option.some.inj h)
        have hcY:=Lib.hid (fun (W : World) (hW : Below w.heap.size w W) => impl_youngClosure.calls k A0 c0 l0 a1_0 A1_1 c1_1 l1_1 A2 c2 l2 r W (Kd.C_below HR0.out hW) hc0 (Kd.C_below HR1.out hW) hc1_1 (Kd.C_below HR2.out hW) hc2 hy)
        clear h hy HF
        go_enter Tryd.func45,Tryd.ntmps45
        go_wp2_with (first
          | (go_at_call 60;refine (hcH.out _ hb.out).mono ?_;rintro e wz ⟨v0,rfl,hown,hbz⟩;obtain ⟨Al,cl,rfl⟩:=Kd.R_slice hown
             have hba:=Lib.hid (below_alloc (below_step hb.out hbz) (.cells #[.slice Al lst.length cl] 23))
             have hLa:=Lib.hid (Kd.C_below (Kd.R_reads' hown).2.2 (below_alloc (Below.refl wz.heap.size wz) (.cells #[.slice Al lst.length cl] 23)))
             have hcla:=Lib.hid (Kd.R_reads' hown).2.1
             have hva:=Lib.hid (heap_alloc_new wz (.cells #[.slice Al lst.length cl] 23))
             have hNa:=Lib.hid (show (wz.alloc (.cells #[.slice Al lst.length cl] 23)).heap[w.heap.size]? = some (.cells #[.int .i64 a1_0,.slice A1_1 l1_1.length c1_1] 30 (0,0)) from blk_alloc ((hbz.block _ (blk_lt hN.out)).trans hN.out) _)
             clear hown hbz)
          | (go_at_call 77;refine (anyI_walk 78 #[.pointer (some ⟨wz.heap.size,0,none⟩)] _ A2 c2 l2 _ (Kd.C_below HR2.out hba.out) hc2 _ hen.out (fun W x b hW hx => yclos1_walk k x b wz.heap.size Al cl lst W (blk_cell ((hW.block _ (blk_lt hva.out)).trans hva.out) 0) (Kd.C_below hLa.out hW) hcla.out hx) HK.out).mono ?_;rintro e wb ⟨rfl,hbc⟩
             have hcb0:=blk_cell ((hbc.block _ (blk_lt hNa.out)).trans hNa.out) 0
             have hcb1:=blk_cell ((hbc.block _ (blk_lt hNa.out)).trans hNa.out) 1
             have hbb2:=Lib.hid (below_step hba.out hbc)
             clear hbc)
          | (go_at_call 79;refine (hcY.out _ hbb2.out).mono ?_;rintro e wy ⟨v1,rfl,howny,hby⟩))
        go_ret2
        exact ⟨_,rfl,Kd.R_lower howny hbb2.out.size,below_step hbb2.out hby⟩
    · rw [if_neg e1] at h
      obtain ⟨rfl,rfl⟩:=Prod.mk.inj (Option.some.inj h)
      clear h HH
      have e2 : decide (400 < (l2.length : Int)) = true:=decide_eq_true (by omega)
      have e3 : 400 < (l2.length : Int):=by omega
      go_enter Tryd.func45,Tryd.ntmps45
      go_wp2_with (go_at_call 60;refine (hcH.out _ hb.out).mono ?_;rintro e wz ⟨v0,rfl,hown,hbz⟩;obtain ⟨Al,cl,rfl⟩:=Kd.R_slice hown)
      go_ret2
      have hz:=below_step hb.out hbz
      exact ⟨_,rfl,Kd.R_nil _ _ _ _ _,hz.alloc hz.size _⟩


end Go.Proofs.YtgfeafcgpeclcaaDoor.X
namespace Go.Proofs.YtgfeafcgpeclcaaDoor.X
open Go.RowKit Go.Proofs.YtgfeafcgpeclcaaDoorW.PrintWords Go.Proofs.YtgfeafcgpeclcaaDoorW.PrintLast Go.Proofs.YtgfeafcgpeclcaaDoorW.PrintMore
class Ch (w w' : World) : Prop where
  b : Below w.heap.size w w'
instance Ch.rfl_ (w : World) : Ch w w := ⟨Below.refl _ _⟩
instance Ch.alloc_ {w w' : World} [h : Ch w w'] (o : Obj) : Ch w (w'.alloc o) := ⟨below_alloc h.b o⟩
instance Ch.drew_ {w w' : World} [h : Ch w w'] : Ch w w'.drew := ⟨below_drew1 h.b⟩
instance Ch.drewN_ {w w' : World} [h : Ch w w'] (n : Nat) : Ch w (w'.drewN n) := ⟨pw_below_drewN h.b n⟩
theorem kup {α : Type} {d : Kd α} {e base : Nat} {ok : Nat → Prop} {v : Value} {xs : List α} {w w1 : World} [h : Ch w w1] (r : d.R e w base ok v xs) : d.R e w1 base ok v xs := Kd.R_below r h.b
theorem bup {o : Obj} {g : Nat} {w w1 : World} [h : Ch w w1] (r : w.heap[g]? = some o) : w1.heap[g]? = some o := (h.b.block g (Array.getElem?_eq_some_iff.1 r).1).trans r
theorem lup {w0 w w1 : World} [h : Ch w w1] (r : Below w0.heap.size w0 w) : Below w0.heap.size w0 w1 := below_step r h.b
theorem am {p : Prop} (h : p) : Aside0 p := ⟨h⟩
end Go.Proofs.YtgfeafcgpeclcaaDoor.X
