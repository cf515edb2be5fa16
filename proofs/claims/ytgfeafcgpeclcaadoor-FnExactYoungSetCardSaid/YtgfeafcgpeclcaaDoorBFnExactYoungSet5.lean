/- Lean functions, walks and rows for the seat YtgfeafcgpeclcaaDoor, written by a program of this repo (wip/tools/xprint.py). (Merged out of this claim's own texts.) -/
import Derived.Test.YtgfeafcgpeclcaaDoorBFnExactYoungSet4
namespace Go.Proofs.YtgfeafcgpeclcaaDoor.X
open Go.RowKit Go.Proofs.YtgfeafcgpeclcaaDoorW.PrintWords Go.Proofs.YtgfeafcgpeclcaaDoorW.PrintLast Go.Proofs.YtgfeafcgpeclcaaDoorW.PrintMore
attribute [local go_sem] max2_int min2_int max_two min_two max_three min_three max_four min_four   -- for this text's walks alone
set_option linter.unusedVariables false
set_option linter.unusedSimpArgs false

/-! ### impl_YoungSet: function 42 -/
def impl_YoungSet.j0 : Nat → List ByteArray → Int → Int → Int → List Int → Bool → Int → List Int → Option (Int × List Int × Bool)
 | 0,_,_,_,_,_,_,_,_ => none
 | k + 1,x0,x2,x3,x4,x12,x29,x643000,x643001 => if x29 = true then (some (0,([] : List Int),false)) else (if 0 ≤ (wrap64 (Int.tdiv x2 2)) then (if (wrap64 (Int.tdiv x2 2)) < (x643001.length : Int) then (if 0 ≤ (wrap64 (Int.tdiv (rd x643001 (wrap64 (Int.tdiv x2 2))) 4)) then (if (wrap64 (Int.tdiv (rd x643001 (wrap64 (Int.tdiv x2 2))) 4)) < (x0.length : Int) then ((impl_within.f x3 0 (wrap64 (((rdOf ByteArray.empty x0 (wrap64 (Int.tdiv (rd x643001 (wrap64 (Int.tdiv x2 2))) 4))).size : Int) - 1))).bind fun t651 => (if t651 = true then (if 0 ≤ x3 then (if x3 < ((rdOf ByteArray.empty x0 (wrap64 (Int.tdiv (rd x643001 (wrap64 (Int.tdiv x2 2))) 4))).size : Int) then (if (bt (rdOf ByteArray.empty x0 (wrap64 (Int.tdiv (rd x643001 (wrap64 (Int.tdiv x2 2))) 4))) x3) = 114 then ((impl_isRef.f k x4 x12).bind fun t652 => (if t652 = true then ((impl_ownNursery.f x643000 x643001).bind fun bt653 => (if 0 ≤ (wrap64 ((wrap64 ((wrap64 (Int.tdiv x2 2)) + 1)) + x3)) then (if (wrap64 ((wrap64 ((wrap64 (Int.tdiv x2 2)) + 1)) + x3)) < (bt653.2.length : Int) then (some (bt653.1,(bt653.2.set ((wrap64 ((wrap64 ((wrap64 (Int.tdiv x2 2)) + 1)) + x3)) : Int).toNat x4),true)) else (none)) else (none))) else (some (0,([] : List Int),false)))) else ((impl_ownNursery.f x643000 x643001).bind fun bt659 => (if 0 ≤ (wrap64 ((wrap64 ((wrap64 (Int.tdiv x2 2)) + 1)) + x3)) then (if (wrap64 ((wrap64 ((wrap64 (Int.tdiv x2 2)) + 1)) + x3)) < (bt659.2.length : Int) then (some (bt659.1,(bt659.2.set ((wrap64 ((wrap64 ((wrap64 (Int.tdiv x2 2)) + 1)) + x3)) : Int).toNat x4),true)) else (none)) else (none)))) else (none)) else (none)) else (some (0,([] : List Int),false)))) else (none)) else (none)) else (none)) else (none))
def impl_YoungSet.f (k : Nat) (l0 : List ByteArray) (a1_0 : Int) (l1_1 : List Int) (a2 : Int) (a3 : Int) (a4 : Int) : Option (Int × List Int × Bool) := (impl_heads.f k l0 a1_0 l1_1).bind fun bt644 => (if bt644.2 = true then ((impl_isHead.f k a2 bt644.1).bind fun t648 => (impl_YoungSet.j0 k l0 a2 a3 a4 bt644.1 (!t648) a1_0 l1_1)) else (impl_YoungSet.j0 k l0 a2 a3 a4 bt644.1 true a1_0 l1_1))
theorem impl_YoungSet.mono_l : ∀ k, (∀ y0 y1 y2 y3 y4 y5 y6 y7, LeO (impl_YoungSet.j0 k y0 y1 y2 y3 y4 y5 y6 y7) (impl_YoungSet.j0 (k + 1) y0 y1 y2 y3 y4 y5 y6 y7))
 | 0 => fun _ _ _ _ _ _ _ _ r h => by simp [impl_YoungSet.j0] at h
 | k + 1 => by
  have ih0:=impl_YoungSet.mono_l k
  ·intro y0 y1 y2 y3 y4 y5 y6 y7
   unfold impl_YoungSet.j0
   repeat' first
   | (with_reducible exact ih0 _ _ _ _ _ _ _ _)
   | (with_reducible exact impl_heads.mono _ _ _ _)
   | (with_reducible exact impl_isHead.mono _ _ _)
   | (with_reducible exact impl_isRef.mono _ _ _)
   | (with_reducible exact LeO.refl _)
   | (with_reducible exact LeO.none _)
   | (with_reducible refine LeO.ite ?_ ?_)
   | (with_reducible refine LeO.bind ?_ (fun _ => ?_))
   | exact ih0 _ _ _ _ _ _ _ _
   | exact impl_heads.mono _ _ _ _
   | exact impl_isHead.mono _ _ _
   | exact impl_isRef.mono _ _ _
   | exact LeO.none _
   | refine LeO.ite ?_ ?_
   | refine LeO.bind ?_ (fun _ => ?_)
theorem impl_YoungSet.mono : ∀ a0 a1 a2 a3 a4 a5 k, LeO (impl_YoungSet.f k a0 a1 a2 a3 a4 a5) (impl_YoungSet.f (k + 1) a0 a1 a2 a3 a4 a5) := by
 intro a0 a1 a2 a3 a4 a5 k
 have ih0:=impl_YoungSet.mono_l k
 unfold impl_YoungSet.f
 repeat' first
   | (with_reducible exact ih0 _ _ _ _ _ _ _ _)
   | (with_reducible exact impl_heads.mono _ _ _ _)
   | (with_reducible exact impl_isHead.mono _ _ _)
   | (with_reducible exact impl_isRef.mono _ _ _)
   | (with_reducible exact LeO.refl _)
   | (with_reducible exact LeO.none _)
   | (with_reducible refine LeO.ite ?_ ?_)
   | (with_reducible refine LeO.bind ?_ (fun _ => ?_))
   | exact ih0 _ _ _ _ _ _ _ _
   | exact impl_heads.mono _ _ _ _
   | exact impl_isHead.mono _ _ _
   | exact impl_isRef.mono _ _ _
   | exact LeO.none _
   | refine LeO.ite ?_ ?_
   | refine LeO.bind ?_ (fun _ => ?_)
set_option maxHeartbeats 8000000 in
set_option maxRecDepth 100000 in
theorem impl_YoungSet.calls (k : Nat) (A0 : Option Addr) (c0 : Nat) (l0 : List ByteArray) (a1_0 : Int) (A1_1 : Option Addr) (c1_1 : Nat) (l1_1 : List Int) (a2 : Int) (a3 : Int) (a4 : Int) (r1 : Int) (r2 : List Int) (r3 : Bool) (w : World) (hr0 : Kd.C Kd.string w A0 l0.length l0) (hc0 : l0.length ≤ c0) (hr1_1 : Kd.C (Kd.int .i64) w A1_1 l1_1.length l1_1) (hc1_1 : l1_1.length ≤ c1_1) (h : impl_YoungSet.f k l0 a1_0 l1_1 a2 a3 a4 = some (r1, r2, r3)) :
  Calls Tryd.prog 42 #[.slice A0 l0.length c0,.agg #[.int .i64 a1_0,.slice A1_1 l1_1.length c1_1],.int .i64 a2,.int .i64 a3,.int .i64 a4] w fun e w' => ∃ v1_ : Value,e = .returned (.tuple #[.agg #[.int .i64 r1,v1_],.bool r3])∧Kd.R (Kd.int .i64) 2 w' w.heap.size (fun _ => True) v1_ r2∧Below w.heap.size w w':=by
 have hu30:=Tryd.underlying30
 have HR0:=am hr0
 have HC0:=am hc0
 clear hr0 hc0
 have HR1_1:=am hr1_1
 have HC1_1:=am hc1_1
 clear hr1_1 hc1_1
 have HB:=am (Below.refl w.heap.size w)
 have H : ((impl_heads.f k l0 a1_0 l1_1).bind fun bt644 => (if bt644.2 = true then ((impl_isHead.f k a2 bt644.1).bind fun t648 => (impl_YoungSet.j0 k l0 a2 a3 a4 bt644.1 (!t648) a1_0 l1_1)) else (impl_YoungSet.j0 k l0 a2 a3 a4 bt644.1 true a1_0 l1_1))) = some (r1,r2,r3):=h
 clear h
 replace H:=Option.bind_eq_some_iff.mp H
 obtain ⟨⟨t644,t647⟩,A60,H⟩:=H
 try dsimp only at H
 have A6:=am A60
 clear A60
 have HC7:=am H
 clear H
 go_enter Tryd.func42,Tryd.ntmps42
 go_upto_region 2 with (first|((with_reducible refine gate_dst (N:=6) rfl ?_);refine box_event ?hg (N:=6) ?hd (cs:=#[.int .i64 a1_0,.slice A1_1 l1_1.length c1_1]) (t:=30) ?hr ?_;(case hd => rfl);(case hg => rfl);(case hr => first|(go_simp;done)|(go_simp;rfl));intro gb642 hg w8 hbox hb;have n0_:=am (below_step (lup HB.out) hb);have n1_:=am (hbox);have n2_:=am ((by rw [hg];exact (below_size (lup HB.out)) : w.heap.size ≤ gb642));have n3_:=am ((by rw [hg];exact (below_size (lup HB.out)) : w.heap.size ≤ gb642));clear HB;have HB:=n0_;have BK642:=n1_;have GW642:=n2_;have GE642:=n3_;clear n0_ n1_ n2_ n3_;clear hb hbox hg)|((with_reducible refine gate_dst (N:=10) rfl ?_);refine box_event ?hg (N:=10) ?hd (cs:=#[.int .i64 0,.slice none 0 0]) (t:=30) ?hr ?_;(case hd => rfl);(case hg => rfl);(case hr => first|(go_simp;done)|(go_simp;rfl));intro gb643 hg w9 hbox hb;have n0_:=am (blk_below (bup BK642.out) hb);have n1_:=am (below_step (lup HB.out) hb);have n2_:=am (hbox);have n3_:=am ((by rw [hg];exact (below_size (lup HB.out)) : w.heap.size ≤ gb643));have n4_:=am ((by rw [hg];exact (below_size (lup HB.out)) : w.heap.size ≤ gb643));have n5_:=am ((by rw [hg];exact Nat.ne_of_lt (blk_lt (bup BK642.out)) : gb642≠gb643));have n6_:=am ((by rw [hg];exact Nat.ne_of_gt (blk_lt (bup BK642.out)) : gb643≠gb642));clear BK642 HB;have BK642:=n0_;have HB:=n1_;have BK643:=n2_;have GW643:=n3_;have GE643:=n4_;have NB642_643:=n5_;have NB643_642:=n6_;clear n0_ n1_ n2_ n3_ n4_ n5_ n6_;clear hb hbox hg;have hnb10:=NB642_643.out;have hnc10:=NB643_642.out;have hcz11_0 : w9.cell? ⟨gb642,0,none⟩ = some (.int .i64 a1_0):=(blk_cell BK642.out 0).trans rfl;have hcz11_1 : w9.cell? ⟨gb642,1,none⟩ = some (.slice A1_1 l1_1.length c1_1):=(blk_cell BK642.out 1).trans rfl;have hfz11_0:=blk_frozen BK642.out 0;have hfz11_1:=blk_frozen BK642.out 1)|((with_reducible refine gate_callee (f:=60) rfl ?_);refine goesL_ (some 19) rfl rfl Tryd.func60 (by kernel_rfl) rfl #[.slice A0 l0.length c0,.agg #[.int .i64 a1_0,.slice A1_1 l1_1.length c1_1]] rfl (by (try simp only [List.map_toArray,List.map_cons,List.map_nil]);first|done|rfl|(simp only [List.length_drop,List.length_take];rfl)) ?_;(with_reducible refine (impl_heads.calls k _ _ l0 a1_0 _ _ l1_1 t644 t647 _ ?side1 ?side2 ?side3 ?side4 A6.out).mono ?_);(case side1 => repeat (first|exact (Kd.C_below HR0.out HB.out)|(with_reducible first|refine Kd.C_alloc ?_ _|refine Kd.C_drewN ?_ _|refine Kd.C_drew ?_)));(case side2 => exact HC0.out);(case side3 => repeat (first|exact (Kd.C_below HR1_1.out HB.out)|(with_reducible first|refine Kd.C_alloc ?_ _|refine Kd.C_drewN ?_ _|refine Kd.C_drew ?_)));(case side4 => exact HC1_1.out);rintro e w12 ⟨v645,rfl,ho0,hb⟩;refine ⟨_,rfl,?_⟩;have n0_:=am (Kd.R_lower ho0 (below_size (lup HB.out)));have n1_:=am (blk_below (bup BK642.out) hb);have n2_:=am (blk_below (bup BK643.out) hb);have n3_:=am (below_step (lup HB.out) hb);clear BK642 BK643 HB;have HO646:=n0_;have BK642:=n1_;have BK643:=n2_;have HB:=n3_;clear n0_ n1_ n2_ n3_;(try clear hb);(try clear hb2);(try clear hk);(try clear hi);(try clear ho0)))
 (try simp only [Act.put,List.setIfInBounds_toArray,List.set_cons_zero,List.set_cons_succ])
 go_cut [29] (fun v29 wc => ∃ (kq : Nat) (x29_6 : Bool),v29 = .bool x29_6∧Aside0 (impl_YoungSet.j0 kq l0 a2 a3 a4 t644 x29_6 a1_0 l1_1 = some (r1,r2,r3))∧Aside0 (kq ≤ k)∧Aside0 (Kd.R (Kd.int .i64) 2 wc w.heap.size (fun _ => True) v645 t644)∧Aside0 (wc.heap[gb642]? = some (.cells #[.int .i64 a1_0,(.slice A1_1 l1_1.length c1_1)] 30 (0,0)))∧Aside0 (wc.heap[gb643]? = some (.cells #[.int .i64 0,(.slice none 0 0)] 30 (0,0)))∧Aside0 (Below w.heap.size w wc))
 case first =>
  have H:=HC7.out
  clear HC7
  by_cases c13 : t647 = true
  ·subst c13
   have H1:=H;rw [if_pos rfl] at H1
   clear H
   have H:=H1
   clear H1
   replace H:=Option.bind_eq_some_iff.mp H
   obtain ⟨t648,A140,H⟩:=H
   try dsimp only at H
   have A14:=am A140
   clear A140
   have H':=am H
   clear H
   obtain ⟨Ao15,co15,eo15⟩:=Kd.R_slice HO646.out
   subst eo15
   go_wp2_with (first|(go_at_call 65;(with_reducible refine (impl_isHead.calls k a2 _ _ t644 t648 _ ?side1 ?side2 A14.out).mono ?_);(case side1 => repeat (first|exact (Kd.R_reads' HO646.out).2.2|(with_reducible first|refine Kd.C_alloc ?_ _|refine Kd.C_drewN ?_ _|refine Kd.C_drew ?_)));(case side2 => exact (Kd.R_reads' HO646.out).2.1);rintro e w' ⟨rfl,⟨nd,rfl⟩⟩))
   go_meet
   case rel => exact ⟨_,(!t648),(by first|rfl|(simp;done)|(simp [*];done)),H',⟨by first|omega|exact Nat.le_refl _⟩,⟨kup HO646.out⟩,⟨bup BK642.out⟩,⟨bup BK643.out⟩,⟨lup HB.out⟩⟩
  ·replace c13:=Bool.eq_false_iff.mpr c13
   subst c13
   have H1 : (impl_YoungSet.j0 k l0 a2 a3 a4 t644 true a1_0 l1_1) = some (r1,r2,r3):=by rw [if_neg (show ¬ (false = true) by decide)] at H;exact H
   clear H
   have H:=H1
   clear H1
   have H':=am H
   clear H
   go_wp2
   go_meet
   case rel => exact ⟨_,(true),(by first|rfl|(simp;done)|(simp [*];done)),H',⟨by first|omega|exact Nat.le_refl _⟩,⟨kup HO646.out⟩,⟨bup BK642.out⟩,⟨bup BK643.out⟩,⟨lup HB.out⟩⟩
 case rest =>
  clear HC7
  try clear c1
  try clear p2
  try clear c4
  try clear c6
  try clear c10
  try clear c13
  try clear hcz11_0
  try clear hcz11_1
  try clear hfz11_0
  try clear hfz11_1
  obtain ⟨kq,x29_6,rfl,HA,HJ6,HO_12,BK642,BK643,HB⟩:=hcut
  cases kq with
  | zero => exact absurd HA.out (by simp [impl_YoungSet.j0])
  | succ kj6 =>
   have H:=HA.out
   clear HA
   simp only [impl_YoungSet.j0] at H
   by_cases c16 : x29_6 = true
   ·subst c16
    have H1:=H;rw [if_pos rfl] at H1
    clear H
    have H:=H1
    clear H1
    simp only [Option.some.injEq,Prod.mk.injEq] at H
    obtain ⟨rfl,rfl,rfl⟩:=H
    have hnb17:=NB643_642.out
    have hnc17:=NB642_643.out
    have hcz18_0 : wc.cell? ⟨gb643,0,none⟩ = some (.int .i64 0):=(blk_cell BK643.out 0).trans rfl
    have hcz18_1 : wc.cell? ⟨gb643,1,none⟩ = some (.slice none 0 0):=(blk_cell BK643.out 1).trans rfl
    have hfz18_0:=blk_frozen BK643.out 0
    have hfz18_1:=blk_frozen BK643.out 1
    go_wp2
    refine bodyPost_ret (results_ct rfl _ _ gb643 30 #[.int .i64 0,.slice none 0 0] (0,0) _ rfl (by (with_reducible repeat (first|refine blk_drewN ?_ _|refine blk_drew ?_|refine blk_alloc ?_ _));refine blk_put (cs:=#[.int .i64 0,.slice none 0 0]) ?_ 1 _ rfl;(with_reducible repeat (first|refine blk_drewN ?_ _|refine blk_drew ?_|refine blk_alloc ?_ _));refine blk_put (cs:=#[.int .i64 0,.slice none 0 0]) ?_ 0 _ rfl;(with_reducible repeat (first|refine blk_drewN ?_ _|refine blk_drew ?_|refine blk_alloc ?_ _));exact BK643.out) Tryd.underlying30 rfl (by kernel_rfl)) rfl ?_
    exact ⟨_,by first|rfl|(simp [errW_none,errW_some] <;> rfl)|(simp [*,errW_none,errW_some] <;> rfl),by first|exact Kd.R_nil _ _ _ _ _|exact Kd.N_nil _ _ _ _ _|exact Kd.V_nil _ _ _ _ _|exact Kd.Q_nil _ _ _ _ _|exact Kd.S_nil _ _ _ _ _,by repeat (first|(with_reducible first|exact HB.out|apply below_alloc|apply pw_below_drewN|apply below_drew1|refine below_set ?_ GE642.out|refine below_set ?_ GE643.out)|exact HB.out)⟩
   ·replace c16:=Bool.eq_false_iff.mpr c16
    subst c16
    have H1 : (if 0 ≤ (wrap64 (Int.tdiv a2 2)) then (if (wrap64 (Int.tdiv a2 2)) < (l1_1.length : Int) then (if 0 ≤ (wrap64 (Int.tdiv (rd l1_1 (wrap64 (Int.tdiv a2 2))) 4)) then (if (wrap64 (Int.tdiv (rd l1_1 (wrap64 (Int.tdiv a2 2))) 4)) < (l0.length : Int) then ((impl_within.f a3 0 (wrap64 (((rdOf ByteArray.empty l0 (wrap64 (Int.tdiv (rd l1_1 (wrap64 (Int.tdiv a2 2))) 4))).size : Int) - 1))).bind fun t651 => (if t651 = true then (if 0 ≤ a3 then (if a3 < ((rdOf ByteArray.empty l0 (wrap64 (Int.tdiv (rd l1_1 (wrap64 (Int.tdiv a2 2))) 4))).size : Int) then (if (bt (rdOf ByteArray.empty l0 (wrap64 (Int.tdiv (rd l1_1 (wrap64 (Int.tdiv a2 2))) 4))) a3) = 114 then ((impl_isRef.f kj6 a4 t644).bind fun t652 => (if t652 = true then ((impl_ownNursery.f a1_0 l1_1).bind fun bt653 => (if 0 ≤ (wrap64 ((wrap64 ((wrap64 (Int.tdiv a2 2)) + 1)) + a3)) then (if (wrap64 ((wrap64 ((wrap64 (Int.tdiv a2 2)) + 1)) + a3)) < (bt653.2.length : Int) then (some (bt653.1,(bt653.2.set ((wrap64 ((wrap64 ((wrap64 (Int.tdiv a2 2)) + 1)) + a3)) : Int).toNat a4),true)) else (none)) else (none))) else (some (0,([] : List Int),false)))) else ((impl_ownNursery.f a1_0 l1_1).bind fun bt659 => (if 0 ≤ (wrap64 ((wrap64 ((wrap64 (Int.tdiv a2 2)) + 1)) + a3)) then (if (wrap64 ((wrap64 ((wrap64 (Int.tdiv a2 2)) + 1)) + a3)) < (bt659.2.length : Int) then (some (bt659.1,(bt659.2.set ((wrap64 ((wrap64 ((wrap64 (Int.tdiv a2 2)) + 1)) + a3)) : Int).toNat a4),true)) else (none)) else (none)))) else (none)) else (none)) else (some (0,([] : List Int),false)))) else (none)) else (none)) else (none)) else (none)) = some (r1,r2,r3):=by rw [if_neg (show ¬ (false = true) by decide)] at H;exact H
    clear H
    have H:=H1
    clear H1
    obtain ⟨ji19,hji19⟩ : ∃ j_ : Int,(wrap64 (Int.tdiv a2 2)) = j_:=⟨_,rfl⟩
    replace H : (if 0 ≤ (ji19) then (if (ji19) < (l1_1.length : Int) then (if 0 ≤ (wrap64 (Int.tdiv (rd l1_1 (ji19)) 4)) then (if (wrap64 (Int.tdiv (rd l1_1 (ji19)) 4)) < (l0.length : Int) then ((impl_within.f a3 0 (wrap64 (((rdOf ByteArray.empty l0 (wrap64 (Int.tdiv (rd l1_1 (ji19)) 4))).size : Int) - 1))).bind fun t651 => (if t651 = true then (if 0 ≤ a3 then (if a3 < ((rdOf ByteArray.empty l0 (wrap64 (Int.tdiv (rd l1_1 (ji19)) 4))).size : Int) then (if (bt (rdOf ByteArray.empty l0 (wrap64 (Int.tdiv (rd l1_1 (ji19)) 4))) a3) = 114 then ((impl_isRef.f kj6 a4 t644).bind fun t652 => (if t652 = true then ((impl_ownNursery.f a1_0 l1_1).bind fun bt653 => (if 0 ≤ (wrap64 ((wrap64 ((ji19) + 1)) + a3)) then (if (wrap64 ((wrap64 ((ji19) + 1)) + a3)) < (bt653.2.length : Int) then (some (bt653.1,(bt653.2.set ((wrap64 ((wrap64 ((ji19) + 1)) + a3)) : Int).toNat a4),true)) else (none)) else (none))) else (some (0,([] : List Int),false)))) else ((impl_ownNursery.f a1_0 l1_1).bind fun bt659 => (if 0 ≤ (wrap64 ((wrap64 ((ji19) + 1)) + a3)) then (if (wrap64 ((wrap64 ((ji19) + 1)) + a3)) < (bt659.2.length : Int) then (some (bt659.1,(bt659.2.set ((wrap64 ((wrap64 ((ji19) + 1)) + a3)) : Int).toNat a4),true)) else (none)) else (none)))) else (none)) else (none)) else (some (0,([] : List Int),false)))) else (none)) else (none)) else (none)) else (none)) = some (r1,r2,r3):=by first|(rw [hji19] at H;exact H)|(simp only [hji19] at H ⊢;exact H)
    have hji19w : (IntKind.i64.wrap (Int.tdiv a2 2)) = ji19:=(i64_w _).trans hji19
    by_cases c20 : 0 ≤ (ji19)
    ·rw [if_pos c20] at H
     have c20b0 : decide (0 ≤ (ji19)) = true:=decide_eq_true c20
     clear c20
     by_cases c21 : (ji19) < (l1_1.length : Int)
     ·rw [if_pos c21] at H
      have c21b0 : decide ((ji19) < (l1_1.length : Int)) = true:=decide_eq_true c21
      clear c21
      obtain ⟨ji22,hji22⟩ : ∃ j_ : Int,(wrap64 (Int.tdiv (rd l1_1 (ji19)) 4)) = j_:=⟨_,rfl⟩
      replace H : (if 0 ≤ (ji22) then (if (ji22) < (l0.length : Int) then ((impl_within.f a3 0 (wrap64 (((rdOf ByteArray.empty l0 (ji22)).size : Int) - 1))).bind fun t651 => (if t651 = true then (if 0 ≤ a3 then (if a3 < ((rdOf ByteArray.empty l0 (ji22)).size : Int) then (if (bt (rdOf ByteArray.empty l0 (ji22)) a3) = 114 then ((impl_isRef.f kj6 a4 t644).bind fun t652 => (if t652 = true then ((impl_ownNursery.f a1_0 l1_1).bind fun bt653 => (if 0 ≤ (wrap64 ((wrap64 ((ji19) + 1)) + a3)) then (if (wrap64 ((wrap64 ((ji19) + 1)) + a3)) < (bt653.2.length : Int) then (some (bt653.1,(bt653.2.set ((wrap64 ((wrap64 ((ji19) + 1)) + a3)) : Int).toNat a4),true)) else (none)) else (none))) else (some (0,([] : List Int),false)))) else ((impl_ownNursery.f a1_0 l1_1).bind fun bt659 => (if 0 ≤ (wrap64 ((wrap64 ((ji19) + 1)) + a3)) then (if (wrap64 ((wrap64 ((ji19) + 1)) + a3)) < (bt659.2.length : Int) then (some (bt659.1,(bt659.2.set ((wrap64 ((wrap64 ((ji19) + 1)) + a3)) : Int).toNat a4),true)) else (none)) else (none)))) else (none)) else (none)) else (some (0,([] : List Int),false)))) else (none)) else (none)) = some (r1,r2,r3):=by first|(rw [hji22] at H;exact H)|(simp only [hji22] at H ⊢;exact H)
      have hji22w : (IntKind.i64.wrap (Int.tdiv (rd l1_1 (ji19)) 4)) = ji22:=(i64_w _).trans hji22
      by_cases c23 : 0 ≤ (ji22)
      ·rw [if_pos c23] at H
       have c23b0 : decide (0 ≤ (ji22)) = true:=decide_eq_true c23
       clear c23
       by_cases c24 : (ji22) < (l0.length : Int)
       ·rw [if_pos c24] at H
        have c24b0 : decide ((ji22) < (l0.length : Int)) = true:=decide_eq_true c24
        clear c24
        replace H:=Option.bind_eq_some_iff.mp H
        obtain ⟨t651,A250,H⟩:=H
        try dsimp only at H
        have A25:=am A250
        clear A250
        by_cases c26 : t651 = true
        ·subst c26
         have H1:=H;rw [if_pos rfl] at H1
         clear H
         have H:=H1
         clear H1
         by_cases c27 : 0 ≤ a3
         ·rw [if_pos c27] at H
          have c27b0 : decide (0 ≤ a3) = true:=decide_eq_true c27
          clear c27
          by_cases c28 : a3 < ((rdOf ByteArray.empty l0 (ji22)).size : Int)
          ·rw [if_pos c28] at H
           have c28b0 : decide (a3 < ((rdOf ByteArray.empty l0 (ji22)).size : Int)) = true:=decide_eq_true c28
           clear c28
           by_cases c30 : (bt (rdOf ByteArray.empty l0 (ji22)) a3) = 114
           ·rw [if_pos c30] at H
            have c30b0 : ((bt (rdOf ByteArray.empty l0 (ji22)) a3) == 114) = true:=beq_iff_eq.mpr c30
            have c30b1 : ((bt (rdOf ByteArray.empty l0 (ji22)) a3) != 114) = false:=bne_eq_false_iff_eq.mpr c30
            clear c30
            replace H:=Option.bind_eq_some_iff.mp H
            obtain ⟨t652,A310,H⟩:=H
            try dsimp only at H
            have A31:=am A310
            clear A310
            by_cases c32 : t652 = true
            ·subst c32
             have H1:=H;rw [if_pos rfl] at H1
             clear H
             have H:=H1
             clear H1
             replace H:=Option.bind_eq_some_iff.mp H
             obtain ⟨⟨t653,t654⟩,A330,H⟩:=H
             try dsimp only at H
             have A33:=am A330
             clear A330
             obtain ⟨ji34,hji34⟩ : ∃ j_ : Int,(wrap64 ((wrap64 ((ji19) + 1)) + a3)) = j_:=⟨_,rfl⟩
             replace H : (if 0 ≤ (ji34) then (if (ji34) < (t654.length : Int) then (some (t653,(t654.set ((ji34) : Int).toNat a4),true)) else (none)) else (none)) = some (r1,r2,r3):=by first|(rw [hji34] at H;exact H)|(simp only [hji34] at H ⊢;exact H)
             (try rw [hji34] at A25)
             (try rw [hji34] at A31)
             (try rw [hji34] at A33)
             have hji34w : (IntKind.i64.wrap ((wrap64 ((ji19) + 1)) + a3)) = ji34:=(i64_w _).trans hji34
             by_cases c35 : 0 ≤ (ji34)
             ·rw [if_pos c35] at H
              have c35b0 : decide (0 ≤ (ji34)) = true:=decide_eq_true c35
              clear c35
              by_cases c36 : (ji34) < (t654.length : Int)
              ·rw [if_pos c36] at H
               have c36b0 : decide ((ji34) < (t654.length : Int)) = true:=decide_eq_true c36
               clear c36
               obtain ⟨y658,hy658⟩ : ∃ y_ : List Int,y_ = (t654.set ((ji34) : Int).toNat a4):=⟨_,rfl⟩
               replace H : (some (t653,y658,true)) = some (r1,r2,r3):=by first|(rw [hy658];with_reducible exact H)|(have H2_:=(Option.bind_some _ _).symm.trans H;rw [hy658];with_reducible exact H2_)|(have H2_:=(Option.bind_some _ _).symm.trans H;with_reducible exact H2_)|with_reducible exact H|(rw [hy658];exact H)|exact H
               have Ny658:=am hy658
               clear hy658
               simp only [Option.some.injEq,Prod.mk.injEq] at H
               obtain ⟨rfl,rfl,rfl⟩:=H
               have hnb38:=NB642_643.out
               have hnc38:=NB643_642.out
               have hcz39_0 : wc.cell? ⟨gb642,0,none⟩ = some (.int .i64 a1_0):=(blk_cell BK642.out 0).trans rfl
               have hcz39_1 : wc.cell? ⟨gb642,1,none⟩ = some (.slice A1_1 l1_1.length c1_1):=(blk_cell BK642.out 1).trans rfl
               have hfz39_0:=blk_frozen BK642.out 0
               have hfz39_1:=blk_frozen BK642.out 1
               have p649 : 0 ≤ ((ji19) : Int):=of_decide_eq_true (by first|(with_reducible assumption)|assumption)
               have q649 : (ji19) < (l1_1.length : Int):=of_decide_eq_true (by first|(with_reducible assumption)|assumption)
               obtain ⟨ad649,e649,hx649_0⟩:=Kd.at_int HR1_1.out (ji19) p649 q649
               cases e649
               replace hx649_0:=(HB.out.cell (World.block_lt_of_cell? w _ hx649_0)).trans hx649_0
               replace p649:=eq_true p649
               replace q649:=eq_true q649
               have p650 : 0 ≤ ((ji22) : Int):=of_decide_eq_true (by first|(with_reducible assumption)|assumption)
               have q650 : (ji22) < (l0.length : Int):=of_decide_eq_true (by first|(with_reducible assumption)|assumption)
               obtain ⟨ad650,e650,hx650_0⟩:=Kd.at_string HR0.out (ji22) p650 q650
               cases e650
               replace hx650_0:=(HB.out.cell (World.block_lt_of_cell? w _ hx650_0)).trans hx650_0
               replace p650:=eq_true p650
               replace q650:=eq_true q650
               go_wp2_with (first|((with_reducible refine gate_callee (f:=69) rfl ?_);refine goesL_ (some 45) rfl rfl Tryd.func69 (by kernel_rfl) rfl #[.int .i64 a3,.int .i64 0,.int .i64 (wrap64 (((rdOf ByteArray.empty l0 (ji22)).size : Int) - 1))] rfl (by (try simp only [List.map_toArray,List.map_cons,List.map_nil]);first|done|(simp only [hji22];rfl)|rfl|(simp only [List.length_drop,List.length_take];rfl)) ?_;(with_reducible refine (impl_within.calls a3 0 (wrap64 (((rdOf ByteArray.empty l0 (ji22)).size : Int) - 1)) true _ A25.out).mono ?_);rintro e w' ⟨rfl,⟨nd,rfl⟩⟩;refine ⟨_,rfl,?_⟩;(try (rw [drewN_self wc];generalize hq_ : World.drewN wc _ = wc;have n0_ : Aside0 (Kd.R (Kd.int .i64) 2 wc w.heap.size (fun _ => True) v645 t644):=⟨by rw [← hq_];exact (kup HO_12.out)⟩;have n1_ : Aside0 (wc.heap[gb642]? = some (.cells #[.int .i64 a1_0,.slice (some ad649) l1_1.length c1_1] 30 (0,0))):=⟨by rw [← hq_];exact (bup BK642.out)⟩;have n2_ : Aside0 (wc.heap[gb643]? = some (.cells #[.int .i64 0,.slice none 0 0] 30 (0,0))):=⟨by rw [← hq_];exact (bup BK643.out)⟩;have n3_ : Aside0 (Below w.heap.size w wc):=⟨by rw [← hq_];exact (by repeat (first|(with_reducible first|exact HB.out|apply below_alloc|apply pw_below_drewN|apply below_drew1|refine below_set ?_ GE642.out|refine below_set ?_ GE643.out)|exact HB.out))⟩;clear HO_12 BK642 BK643 HB hq_;have HO_12:=n0_;have BK642:=n1_;have BK643:=n2_;have HB:=n3_;clear n0_ n1_ n2_ n3_;have hcq0_0 : wc.cell? ⟨gb642,0,none⟩ = some (.int .i64 a1_0):=(blk_cell BK642.out 0).trans rfl;have hfq0_0:=blk_frozen BK642.out 0;have hcq0_1 : wc.cell? ⟨gb642,1,none⟩ = some (.slice (some ad649) l1_1.length c1_1):=(blk_cell BK642.out 1).trans rfl;have hfq0_1:=blk_frozen BK642.out 1;have hcq1_0 : wc.cell? ⟨gb643,0,none⟩ = some (.int .i64 0):=(blk_cell BK643.out 0).trans rfl;have hfq1_0:=blk_frozen BK643.out 0;have hcq1_1 : wc.cell? ⟨gb643,1,none⟩ = some (.slice none 0 0):=(blk_cell BK643.out 1).trans rfl;have hfq1_1:=blk_frozen BK643.out 1));have p29 : 0 ≤ (a3 : Int):=of_decide_eq_true (by first|(with_reducible assumption)|assumption);have q29 : a3 < ((rdOf ByteArray.empty l0 (ji22)).size : Int):=of_decide_eq_true (by first|(with_reducible assumption)|assumption);have hx29:=bt_at (rdOf ByteArray.empty l0 (ji22)) a3;replace p29:=eq_true p29;replace q29:=eq_true q29;obtain ⟨Ao40,co40,eo40⟩:=Kd.R_slice HO_12.out;subst eo40)|(go_at_call 74;(with_reducible refine (impl_isRef.calls kj6 a4 _ _ t644 true _ ?side1 ?side2 A31.out).mono ?_);(case side1 => repeat (first|exact (Kd.R_reads' HO_12.out).2.2|(with_reducible first|refine Kd.C_alloc ?_ _|refine Kd.C_drewN ?_ _|refine Kd.C_drew ?_)));(case side2 => exact (Kd.R_reads' HO_12.out).2.1);rintro e w' ⟨rfl,⟨nd,rfl⟩⟩;(try (rw [drewN_self wc];generalize hq_ : World.drewN wc _ = wc;have n0_ : Aside0 (Kd.R (Kd.int .i64) 2 wc w.heap.size (fun _ => True) (.slice Ao40 t644.length co40) t644):=⟨by rw [← hq_];exact (kup HO_12.out)⟩;have n1_ : Aside0 (wc.heap[gb642]? = some (.cells #[.int .i64 a1_0,.slice (some ad649) l1_1.length c1_1] 30 (0,0))):=⟨by rw [← hq_];exact (bup BK642.out)⟩;have n2_ : Aside0 (wc.heap[gb643]? = some (.cells #[.int .i64 0,.slice none 0 0] 30 (0,0))):=⟨by rw [← hq_];exact (bup BK643.out)⟩;have n3_ : Aside0 (Below w.heap.size w wc):=⟨by rw [← hq_];exact (by repeat (first|(with_reducible first|exact HB.out|apply below_alloc|apply pw_below_drewN|apply below_drew1|refine below_set ?_ GE642.out|refine below_set ?_ GE643.out)|exact HB.out))⟩;clear HO_12 BK642 BK643 HB hq_;have HO_12:=n0_;have BK642:=n1_;have BK643:=n2_;have HB:=n3_;clear n0_ n1_ n2_ n3_;have hcq2_0 : wc.cell? ⟨gb642,0,none⟩ = some (.int .i64 a1_0):=(blk_cell BK642.out 0).trans rfl;have hfq2_0:=blk_frozen BK642.out 0;have hcq2_1 : wc.cell? ⟨gb642,1,none⟩ = some (.slice (some ad649) l1_1.length c1_1):=(blk_cell BK642.out 1).trans rfl;have hfq2_1:=blk_frozen BK642.out 1;have hcq3_0 : wc.cell? ⟨gb643,0,none⟩ = some (.int .i64 0):=(blk_cell BK643.out 0).trans rfl;have hfq3_0:=blk_frozen BK643.out 0;have hcq3_1 : wc.cell? ⟨gb643,1,none⟩ = some (.slice none 0 0):=(blk_cell BK643.out 1).trans rfl;have hfq3_1:=blk_frozen BK643.out 1)))|((with_reducible refine gate_callee (f:=72) rfl ?_);refine goesL_ (some 61) rfl rfl Tryd.func72 (by kernel_rfl) rfl #[.agg #[.int .i64 a1_0,.slice (some ad649) l1_1.length c1_1]] rfl (by (try simp only [List.map_toArray,List.map_cons,List.map_nil]);first|done|rfl|(simp only [List.length_drop,List.length_take];rfl)) ?_;(with_reducible refine (impl_ownNursery.calls a1_0 _ _ l1_1 t653 t654 _ ?side1 ?side2 A33.out).mono ?_);(case side1 => repeat (first|exact (Kd.C_below HR1_1.out HB.out)|(with_reducible first|refine Kd.C_alloc ?_ _|refine Kd.C_drewN ?_ _|refine Kd.C_drew ?_)));(case side2 => exact HC1_1.out);rintro e w41 ⟨v655,rfl,ho0,hb⟩;refine ⟨_,rfl,?_⟩;have n0_:=am (Kd.R_elder' (kup HO_12.out) (Kd.R_base ho0) hb);have n1_:=am (Kd.R_lower (Kd.R_new' ho0 (Kd.R_lt (kup HO_12.out))) (below_size (by repeat (first|(with_reducible first|exact HB.out|apply below_alloc|apply pw_below_drewN|apply below_drew1|refine below_set ?_ GE642.out|refine below_set ?_ GE643.out)|exact HB.out))));have n2_:=am (blk_below (g:=gb642) (o:=.cells #[.int .i64 a1_0,.slice (some ad649) l1_1.length c1_1] 30 (0,0)) (bup BK642.out) hb);have n3_:=am (blk_below (g:=gb643) (o:=.cells #[.int .i64 0,.slice none 0 0] 30 (0,0)) (bup BK643.out) hb);have n4_:=am (below_step (by repeat (first|(with_reducible first|exact HB.out|apply below_alloc|apply pw_below_drewN|apply below_drew1|refine below_set ?_ GE642.out|refine below_set ?_ GE643.out)|exact HB.out)) hb);clear HO_12 BK642 BK643 HB;have HO_12:=n0_;have HO656:=n1_;have BK642:=n2_;have BK643:=n3_;have HB:=n4_;clear n0_ n1_ n2_ n3_ n4_;(try clear hb);(try clear hb2);(try clear hk);(try clear hi);(try clear ho0))|((with_reducible refine gate_dst (N:=15) rfl ?_);refine box_event ?hg (N:=15) ?hd (cs:=#[.int .i64 0,.slice none 0 0]) (t:=30) ?hr ?_;(case hd => rfl);(case hg => rfl);(case hr => first|(go_simp;done)|(go_simp;rfl));intro gb657 hg w42 hbox hb;have n0_:=am (Kd.R_below (kup HO_12.out) hb);have n1_:=am (Kd.R_below (kup HO656.out) hb);have n2_:=am (blk_below (g:=gb642) (o:=.cells #[.int .i64 a1_0,.slice (some ad649) l1_1.length c1_1] 30 (0,0)) (bup BK642.out) hb);have n3_:=am (blk_below (g:=gb643) (o:=.cells #[.int .i64 0,.slice none 0 0] 30 (0,0)) (bup BK643.out) hb);have n4_:=am (below_step (by repeat (first|(with_reducible first|exact HB.out|apply below_alloc|apply pw_below_drewN|apply below_drew1|refine below_set ?_ GE642.out|refine below_set ?_ GE643.out)|exact HB.out)) hb);have n5_:=am (hbox);have n6_:=am ((by rw [hg];exact (below_size (by repeat (first|(with_reducible first|exact HB.out|apply below_alloc|apply pw_below_drewN|apply below_drew1|refine below_set ?_ GE642.out|refine below_set ?_ GE643.out)|exact HB.out))) : w.heap.size ≤ gb657));have n7_:=am ((by rw [hg];exact (below_size (by repeat (first|(with_reducible first|exact HB.out|apply below_alloc|apply pw_below_drewN|apply below_drew1|refine below_set ?_ GE642.out|refine below_set ?_ GE643.out)|exact HB.out))) : w.heap.size ≤ gb657));have n8_:=am ((by rw [hg];exact Nat.ne_of_lt (blk_lt (g:=gb642) (o:=.cells #[.int .i64 a1_0,.slice (some ad649) l1_1.length c1_1] 30 (0,0)) (bup BK642.out)) : gb642≠gb657));have n9_:=am ((by rw [hg];exact Nat.ne_of_gt (blk_lt (g:=gb642) (o:=.cells #[.int .i64 a1_0,.slice (some ad649) l1_1.length c1_1] 30 (0,0)) (bup BK642.out)) : gb657≠gb642));have n10_:=am ((by rw [hg];exact Nat.ne_of_lt (blk_lt (g:=gb643) (o:=.cells #[.int .i64 0,.slice none 0 0] 30 (0,0)) (bup BK643.out)) : gb643≠gb657));have n11_:=am ((by rw [hg];exact Nat.ne_of_gt (blk_lt (g:=gb643) (o:=.cells #[.int .i64 0,.slice none 0 0] 30 (0,0)) (bup BK643.out)) : gb657≠gb643));clear HO_12 HO656 BK642 BK643 HB;have HO_12:=n0_;have HO656:=n1_;have BK642:=n2_;have BK643:=n3_;have HB:=n4_;have BK657:=n5_;have GW657:=n6_;have GE657:=n7_;have NB642_657:=n8_;have NB657_642:=n9_;have NB643_657:=n10_;have NB657_643:=n11_;clear n0_ n1_ n2_ n3_ n4_ n5_ n6_ n7_ n8_ n9_ n10_ n11_;clear hb hbox hg;have hnb43:=NB657_642.out;have hnc43:=NB642_657.out;have hnb44:=NB657_643.out;have hnc44:=NB643_657.out;have hcz45_0 : w42.cell? ⟨gb657,0,none⟩ = some (.int .i64 0):=(blk_cell BK657.out 0).trans rfl;have hcz45_1 : w42.cell? ⟨gb657,1,none⟩ = some (.slice none 0 0):=(blk_cell BK657.out 1).trans rfl;have hfz45_0:=blk_frozen BK657.out 0;have hfz45_1:=blk_frozen BK657.out 1;obtain ⟨Ao46,co46,eo46⟩:=Kd.R_slice HO656.out;subst eo46)|((with_reducible refine gate_store (t:=30) (p:=15) rfl ?_);refine store_event (t:=30) (p:=15) (v:=?vo_w47) (w1:=((w42.setCell ⟨gb657,0,none⟩ (.int .i64 t653)).setCell ⟨gb657,1,none⟩ (.slice Ao46 t654.length co46))) ?hg ?ho ?hn ?hr ?_;(case ho => rfl);(case hg => rfl);(case hn => rfl);(case hr => first|(go_simp;done)|(go_simp;rfl));intro w47 hw;have n0_ : Aside0 (Kd.R (Kd.int .i64) 2 w47 w.heap.size (fun k_ => some k_≠(.slice Ao46 t654.length co46 : Value).ownBlock) (.slice Ao40 t644.length co40) t644):=⟨(by rw [hw];exact (by (with_reducible repeat (first|apply Kd.R_alloc|apply Kd.R_drewN|apply Kd.R_drew));exact Kd.R_mono (Kd.R_far (p:=⟨gb657,1,none⟩) (Kd.R_far (p:=⟨gb657,0,none⟩) (Kd.R_types HO_12.out BK657.out (by decide)) (fun _ hk => hk.2) (.int .i64 t653)) (fun _ hk => hk.2) (.slice Ao46 t654.length co46)) (fun _ hk => by first|exact hk.1.2|(first|exact hk.2|exact hk.1.2|exact hk.1.1.2|exact hk.1.1.1.2|exact hk.1.1.1.1.2|exact hk.1.1.1.1.1.2|exact hk|exact hk.1|exact hk.1.1|exact hk.1.1.1|exact hk.1.1.1.1|exact hk.1.1.1.1.1|exact trivial)|(refine ⟨?_,?_⟩ <;> first|exact hk.2|exact hk.1.2|exact hk.1.1.2|exact hk.1.1.1.2|exact hk.1.1.1.1.2|exact hk.1.1.1.1.1.2|exact hk|exact hk.1|exact hk.1.1|exact hk.1.1.1|exact hk.1.1.1.1|exact hk.1.1.1.1.1|exact trivial))))⟩;have n1_ : Aside0 (Kd.R (Kd.int .i64) 2 w47 w.heap.size (fun k_ => some k_≠(.slice Ao40 t644.length co40 : Value).ownBlock) (.slice Ao46 t654.length co46) t654):=⟨(by rw [hw];exact (by (with_reducible repeat (first|apply Kd.R_alloc|apply Kd.R_drewN|apply Kd.R_drew));exact Kd.R_mono (Kd.R_far (p:=⟨gb657,1,none⟩) (Kd.R_far (p:=⟨gb657,0,none⟩) (Kd.R_types HO656.out BK657.out (by decide)) (fun _ hk => hk.2) (.int .i64 t653)) (fun _ hk => hk.2) (.slice Ao46 t654.length co46)) (fun _ hk => by first|exact hk.1.2|(first|exact hk.2|exact hk.1.2|exact hk.1.1.2|exact hk.1.1.1.2|exact hk.1.1.1.1.2|exact hk.1.1.1.1.1.2|exact hk|exact hk.1|exact hk.1.1|exact hk.1.1.1|exact hk.1.1.1.1|exact hk.1.1.1.1.1|exact trivial)|(refine ⟨?_,?_⟩ <;> first|exact hk.2|exact hk.1.2|exact hk.1.1.2|exact hk.1.1.1.2|exact hk.1.1.1.1.2|exact hk.1.1.1.1.1.2|exact hk|exact hk.1|exact hk.1.1|exact hk.1.1.1|exact hk.1.1.1.1|exact hk.1.1.1.1.1|exact trivial))))⟩;have n2_ : Aside0 (w47.heap[gb642]? = some (.cells #[.int .i64 a1_0,.slice (some ad649) l1_1.length c1_1] 30 (0,0))):=⟨(by rw [hw];exact (by (with_reducible repeat (first|refine blk_drewN ?_ _|refine blk_drew ?_|refine blk_alloc ?_ _));refine blk_far ?_ NB642_657.out _;(with_reducible repeat (first|refine blk_drewN ?_ _|refine blk_drew ?_|refine blk_alloc ?_ _));refine blk_far ?_ NB642_657.out _;(with_reducible repeat (first|refine blk_drewN ?_ _|refine blk_drew ?_|refine blk_alloc ?_ _));exact BK642.out))⟩;have n3_ : Aside0 (w47.heap[gb643]? = some (.cells #[.int .i64 0,.slice none 0 0] 30 (0,0))):=⟨(by rw [hw];exact (by (with_reducible repeat (first|refine blk_drewN ?_ _|refine blk_drew ?_|refine blk_alloc ?_ _));refine blk_far ?_ NB643_657.out _;(with_reducible repeat (first|refine blk_drewN ?_ _|refine blk_drew ?_|refine blk_alloc ?_ _));refine blk_far ?_ NB643_657.out _;(with_reducible repeat (first|refine blk_drewN ?_ _|refine blk_drew ?_|refine blk_alloc ?_ _));exact BK643.out))⟩;have n4_ : Aside0 (w47.heap[gb657]? = some (.cells #[.int .i64 t653,.slice Ao46 t654.length co46] 30 (0,0))):=⟨(by rw [hw];exact (by (with_reducible repeat (first|refine blk_drewN ?_ _|refine blk_drew ?_|refine blk_alloc ?_ _));refine blk_put (cs:=#[.int .i64 t653,.slice none 0 0]) ?_ 1 _ rfl;(with_reducible repeat (first|refine blk_drewN ?_ _|refine blk_drew ?_|refine blk_alloc ?_ _));refine blk_put (cs:=#[.int .i64 0,.slice none 0 0]) ?_ 0 _ rfl;(with_reducible repeat (first|refine blk_drewN ?_ _|refine blk_drew ?_|refine blk_alloc ?_ _));exact BK657.out))⟩;have n5_ : Aside0 (Below w.heap.size w w47):=⟨(by rw [hw];exact (by repeat (first|(with_reducible first|exact HB.out|apply below_alloc|apply pw_below_drewN|apply below_drew1|refine below_set ?_ GE642.out|refine below_set ?_ GE643.out|refine below_set ?_ GE657.out)|exact HB.out)))⟩;clear hw HO_12 HO656 BK642 BK643 BK657 HB;have HO_12:=n0_;have HO656:=n1_;have BK642:=n2_;have BK643:=n3_;have BK657:=n4_;have HB:=n5_;clear n0_ n1_ n2_ n3_ n4_ n5_;have hcz48_0 : w47.cell? ⟨gb657,0,none⟩ = some (.int .i64 t653):=(blk_cell BK657.out 0).trans rfl;have hcz48_1 : w47.cell? ⟨gb657,1,none⟩ = some (.slice Ao46 t654.length co46):=(blk_cell BK657.out 1).trans rfl;have hfz48_0:=blk_frozen BK657.out 0;have hfz48_1:=blk_frozen BK657.out 1;have p37 : 0 ≤ ((ji34) : Int):=of_decide_eq_true (by first|(with_reducible assumption)|assumption);have q37 : ((ji34) : Int) < ((t654.length : Int) : Int):=of_decide_eq_true (by first|(with_reducible assumption)|assumption);obtain ⟨go37,co37,eo37,gb37,gl37,cl37,HG37⟩:=Kd.R_form HO656.out (by omega);(first|cases eo37|(injection eo37 with ea_ en_ ec_;(first|subst ea_|(injection ea_ with ea_;subst ea_));subst ec_;clear en_));have GB37:=am gb37;have GG37:=am HG37;clear gb37 gl37 HG37;obtain ⟨hx37_0,hf37_0⟩:=Kd.R_celln 0 HO656.out ((ji34) : Int) p37 q37;replace p37:=eq_true p37;replace q37:=eq_true q37;obtain ⟨hy49_,hz49_⟩:=Kd.R_celln 0 HO656.out ((ji34) : Int) (of_decide_eq_true (by first|(with_reducible assumption)|assumption)) (of_decide_eq_true (by first|(with_reducible assumption)|assumption));have HP49:=Kd.R_putg HO656.out ((ji34) : Int) a4)|((with_reducible refine gate_store (t:=2) (p:=70) rfl ?_);refine store_event (t:=2) (p:=70) (v:=?vo_w50) (w1:=(w47.setCell ⟨go37,((ji34) : Int).toNat,none⟩ (.int .i64 a4))) ?hg ?ho ?hn ?hr ?_;(case ho => rfl);(case hg => rfl);(case hn => rfl);(case hr => first|(go_simp;done)|(go_simp;rfl));intro w50 hw;have hg : w47.grownBy w50 (some go37):=(by rw [hw];exact HP49.2);have hp_ : Kd.R (Kd.int .i64) 2 w50 w.heap.size (fun k_ => some k_≠(.slice Ao40 t644.length co40 : Value).ownBlock) (.slice (some ⟨go37,0,none⟩) t654.length co46) y658:=(by rw [hw,Ny658.out];exact HP49.1);clear HP49;have n0_:=am (Kd.R_after (v:=(.slice (some ⟨go37,0,none⟩) t654.length co46)) (v1:=(.slice (some ⟨go37,0,none⟩) t654.length co46)) (ok:=(fun _ => True)) (by (with_reducible repeat (first|apply Kd.R_alloc|apply Kd.R_drewN|apply Kd.R_drew));exact Kd.R_mono HO_12.out (fun _ hk => ⟨trivial,hk⟩)) hg (.inl rfl));have n1_:=am (blk_grown (g:=gb642) (o:=.cells #[.int .i64 a1_0,.slice (some ad649) l1_1.length c1_1] 30 (0,0)) (bup BK642.out) hg (Kd.R_ne HO656.out BK642.out (by decide)));have n2_:=am (blk_grown (g:=gb643) (o:=.cells #[.int .i64 0,.slice none 0 0] 30 (0,0)) (bup BK643.out) hg (Kd.R_ne HO656.out BK643.out (by decide)));have n3_:=am (hp_);have n4_:=am (blk_grown (g:=gb657) (o:=.cells #[.int .i64 t653,.slice (some ⟨go37,0,none⟩) t654.length co46] 30 (0,0)) (bup BK657.out) hg (Kd.R_ne HO656.out BK657.out (by decide)));have n5_:=am ((by rw [hw];exact below_set (HB.out) GB37.out : Below w.heap.size w w50));clear HO_12 BK642 BK643 HO656 BK657 HB;have HO_12:=n0_;have BK642:=n1_;have BK643:=n2_;have HO656:=n3_;have BK657:=n4_;have HB:=n5_;clear n0_ n1_ n2_ n3_ n4_ n5_;clear hg hw hp_;have hcz51_0 : w50.cell? ⟨gb657,0,none⟩ = some (.int .i64 t653):=(blk_cell BK657.out 0).trans rfl;have hcz51_1 : w50.cell? ⟨gb657,1,none⟩ = some (.slice (some ⟨go37,0,none⟩) t654.length co46):=(blk_cell BK657.out 1).trans rfl;have hfz51_0:=blk_frozen BK657.out 0;have hfz51_1:=blk_frozen BK657.out 1;have hcz52_0 : w50.cell? ⟨gb643,0,none⟩ = some (.int .i64 0):=(blk_cell BK643.out 0).trans rfl;have hcz52_1 : w50.cell? ⟨gb643,1,none⟩ = some (.slice none 0 0):=(blk_cell BK643.out 1).trans rfl;have hfz52_0:=blk_frozen BK643.out 0;have hfz52_1:=blk_frozen BK643.out 1))
               refine bodyPost_ret (results_ct rfl _ _ gb643 30 #[.int .i64 t653,.slice (some ⟨go37,0,none⟩) t654.length co46] (0,0) _ rfl (by (with_reducible repeat (first|refine blk_drewN ?_ _|refine blk_drew ?_|refine blk_alloc ?_ _));refine blk_put (cs:=#[.int .i64 t653,.slice none 0 0]) ?_ 1 _ rfl;(with_reducible repeat (first|refine blk_drewN ?_ _|refine blk_drew ?_|refine blk_alloc ?_ _));refine blk_put (cs:=#[.int .i64 0,.slice none 0 0]) ?_ 0 _ rfl;(with_reducible repeat (first|refine blk_drewN ?_ _|refine blk_drew ?_|refine blk_alloc ?_ _));exact BK643.out) Tryd.underlying30 rfl (by kernel_rfl)) rfl ?_
               exact ⟨_,by first|rfl|(simp [errW_none,errW_some] <;> rfl)|(simp only [← hji19,← hji22,← hji34];first|rfl|(simp [errW_none,errW_some] <;> rfl))|(simp [*,errW_none,errW_some] <;> rfl),by (with_reducible repeat (first|apply Kd.R_alloc|apply Kd.R_drewN|apply Kd.R_drew));exact Kd.R_mono (Kd.R_far (p:=⟨gb643,1,none⟩) (Kd.R_far (p:=⟨gb643,0,none⟩) (Kd.R_types HO656.out BK643.out (by decide)) (fun _ hk => hk.2) (.int .i64 t653)) (fun _ hk => hk.2) (.slice (some ⟨go37,0,none⟩) t654.length co46)) (fun _ hk => trivial),by repeat (first|(with_reducible first|exact HB.out|apply below_alloc|apply pw_below_drewN|apply below_drew1|refine below_set ?_ GE642.out|refine below_set ?_ GE643.out|refine below_set ?_ GE657.out)|exact HB.out)⟩
              ·rw [if_neg c36] at H
               exact absurd H (by simp)
             ·rw [if_neg c35] at H
              exact absurd H (by simp)
            ·replace c32:=Bool.eq_false_iff.mpr c32
             subst c32
             have H1 : (some (0,([] : List Int),false)) = some (r1,r2,r3):=by rw [if_neg (show ¬ (false = true) by decide)] at H;exact H
             clear H
             have H:=H1
             clear H1
             simp only [Option.some.injEq,Prod.mk.injEq] at H
             obtain ⟨rfl,rfl,rfl⟩:=H
             have hnb53:=NB642_643.out
             have hnc53:=NB643_642.out
             have hcz54_0 : wc.cell? ⟨gb642,0,none⟩ = some (.int .i64 a1_0):=(blk_cell BK642.out 0).trans rfl
             have hcz54_1 : wc.cell? ⟨gb642,1,none⟩ = some (.slice A1_1 l1_1.length c1_1):=(blk_cell BK642.out 1).trans rfl
             have hfz54_0:=blk_frozen BK642.out 0
             have hfz54_1:=blk_frozen BK642.out 1
             have p649 : 0 ≤ ((ji19) : Int):=of_decide_eq_true (by first|(with_reducible assumption)|assumption)
             have q649 : (ji19) < (l1_1.length : Int):=of_decide_eq_true (by first|(with_reducible assumption)|assumption)
             obtain ⟨ad649,e649,hx649_0⟩:=Kd.at_int HR1_1.out (ji19) p649 q649
             cases e649
             replace hx649_0:=(HB.out.cell (World.block_lt_of_cell? w _ hx649_0)).trans hx649_0
             replace p649:=eq_true p649
             replace q649:=eq_true q649
             have p650 : 0 ≤ ((ji22) : Int):=of_decide_eq_true (by first|(with_reducible assumption)|assumption)
             have q650 : (ji22) < (l0.length : Int):=of_decide_eq_true (by first|(with_reducible assumption)|assumption)
             obtain ⟨ad650,e650,hx650_0⟩:=Kd.at_string HR0.out (ji22) p650 q650
             cases e650
             replace hx650_0:=(HB.out.cell (World.block_lt_of_cell? w _ hx650_0)).trans hx650_0
             replace p650:=eq_true p650
             replace q650:=eq_true q650
             go_wp2_with (first|((with_reducible refine gate_callee (f:=69) rfl ?_);refine goesL_ (some 45) rfl rfl Tryd.func69 (by kernel_rfl) rfl #[.int .i64 a3,.int .i64 0,.int .i64 (wrap64 (((rdOf ByteArray.empty l0 (ji22)).size : Int) - 1))] rfl (by (try simp only [List.map_toArray,List.map_cons,List.map_nil]);first|done|(simp only [hji22];rfl)|rfl|(simp only [List.length_drop,List.length_take];rfl)) ?_;(with_reducible refine (impl_within.calls a3 0 (wrap64 (((rdOf ByteArray.empty l0 (ji22)).size : Int) - 1)) true _ A25.out).mono ?_);rintro e w' ⟨rfl,⟨nd,rfl⟩⟩;refine ⟨_,rfl,?_⟩;(try (rw [drewN_self wc];generalize hq_ : World.drewN wc _ = wc;have n0_ : Aside0 (Kd.R (Kd.int .i64) 2 wc w.heap.size (fun _ => True) v645 t644):=⟨by rw [← hq_];exact (kup HO_12.out)⟩;have n1_ : Aside0 (wc.heap[gb642]? = some (.cells #[.int .i64 a1_0,.slice (some ad649) l1_1.length c1_1] 30 (0,0))):=⟨by rw [← hq_];exact (bup BK642.out)⟩;have n2_ : Aside0 (wc.heap[gb643]? = some (.cells #[.int .i64 0,.slice none 0 0] 30 (0,0))):=⟨by rw [← hq_];exact (bup BK643.out)⟩;have n3_ : Aside0 (Below w.heap.size w wc):=⟨by rw [← hq_];exact (lup HB.out)⟩;clear HO_12 BK642 BK643 HB hq_;have HO_12:=n0_;have BK642:=n1_;have BK643:=n2_;have HB:=n3_;clear n0_ n1_ n2_ n3_;have hcq4_0 : wc.cell? ⟨gb642,0,none⟩ = some (.int .i64 a1_0):=(blk_cell BK642.out 0).trans rfl;have hfq4_0:=blk_frozen BK642.out 0;have hcq4_1 : wc.cell? ⟨gb642,1,none⟩ = some (.slice (some ad649) l1_1.length c1_1):=(blk_cell BK642.out 1).trans rfl;have hfq4_1:=blk_frozen BK642.out 1;have hcq5_0 : wc.cell? ⟨gb643,0,none⟩ = some (.int .i64 0):=(blk_cell BK643.out 0).trans rfl;have hfq5_0:=blk_frozen BK643.out 0;have hcq5_1 : wc.cell? ⟨gb643,1,none⟩ = some (.slice none 0 0):=(blk_cell BK643.out 1).trans rfl;have hfq5_1:=blk_frozen BK643.out 1));have p29 : 0 ≤ (a3 : Int):=of_decide_eq_true (by first|(with_reducible assumption)|assumption);have q29 : a3 < ((rdOf ByteArray.empty l0 (ji22)).size : Int):=of_decide_eq_true (by first|(with_reducible assumption)|assumption);have hx29:=bt_at (rdOf ByteArray.empty l0 (ji22)) a3;replace p29:=eq_true p29;replace q29:=eq_true q29;obtain ⟨Ao55,co55,eo55⟩:=Kd.R_slice HO_12.out;subst eo55)|(go_at_call 74;(with_reducible refine (impl_isRef.calls kj6 a4 _ _ t644 false _ ?side1 ?side2 A31.out).mono ?_);(case side1 => repeat (first|exact (Kd.R_reads' HO_12.out).2.2|(with_reducible first|refine Kd.C_alloc ?_ _|refine Kd.C_drewN ?_ _|refine Kd.C_drew ?_)));(case side2 => exact (Kd.R_reads' HO_12.out).2.1);rintro e w' ⟨rfl,⟨nd,rfl⟩⟩;(try (rw [drewN_self wc];generalize hq_ : World.drewN wc _ = wc;have n0_ : Aside0 (Kd.R (Kd.int .i64) 2 wc w.heap.size (fun _ => True) (.slice Ao55 t644.length co55) t644):=⟨by rw [← hq_];exact (kup HO_12.out)⟩;have n1_ : Aside0 (wc.heap[gb642]? = some (.cells #[.int .i64 a1_0,.slice (some ad649) l1_1.length c1_1] 30 (0,0))):=⟨by rw [← hq_];exact (bup BK642.out)⟩;have n2_ : Aside0 (wc.heap[gb643]? = some (.cells #[.int .i64 0,.slice none 0 0] 30 (0,0))):=⟨by rw [← hq_];exact (bup BK643.out)⟩;have n3_ : Aside0 (Below w.heap.size w wc):=⟨by rw [← hq_];exact (lup HB.out)⟩;clear HO_12 BK642 BK643 HB hq_;have HO_12:=n0_;have BK642:=n1_;have BK643:=n2_;have HB:=n3_;clear n0_ n1_ n2_ n3_;have hcq6_0 : wc.cell? ⟨gb642,0,none⟩ = some (.int .i64 a1_0):=(blk_cell BK642.out 0).trans rfl;have hfq6_0:=blk_frozen BK642.out 0;have hcq6_1 : wc.cell? ⟨gb642,1,none⟩ = some (.slice (some ad649) l1_1.length c1_1):=(blk_cell BK642.out 1).trans rfl;have hfq6_1:=blk_frozen BK642.out 1;have hcq7_0 : wc.cell? ⟨gb643,0,none⟩ = some (.int .i64 0):=(blk_cell BK643.out 0).trans rfl;have hfq7_0:=blk_frozen BK643.out 0;have hcq7_1 : wc.cell? ⟨gb643,1,none⟩ = some (.slice none 0 0):=(blk_cell BK643.out 1).trans rfl;have hfq7_1:=blk_frozen BK643.out 1));have hcz56_0 : wc.cell? ⟨gb643,0,none⟩ = some (.int .i64 0):=(blk_cell BK643.out 0).trans rfl;have hcz56_1 : wc.cell? ⟨gb643,1,none⟩ = some (.slice none 0 0):=(blk_cell BK643.out 1).trans rfl;have hfz56_0:=blk_frozen BK643.out 0;have hfz56_1:=blk_frozen BK643.out 1))
             refine bodyPost_ret (results_ct rfl _ _ gb643 30 #[.int .i64 0,.slice none 0 0] (0,0) _ rfl (by (with_reducible repeat (first|refine blk_drewN ?_ _|refine blk_drew ?_|refine blk_alloc ?_ _));refine blk_put (cs:=#[.int .i64 0,.slice none 0 0]) ?_ 1 _ rfl;(with_reducible repeat (first|refine blk_drewN ?_ _|refine blk_drew ?_|refine blk_alloc ?_ _));refine blk_put (cs:=#[.int .i64 0,.slice none 0 0]) ?_ 0 _ rfl;(with_reducible repeat (first|refine blk_drewN ?_ _|refine blk_drew ?_|refine blk_alloc ?_ _));exact BK643.out) Tryd.underlying30 rfl (by kernel_rfl)) rfl ?_
             exact ⟨_,by first|rfl|(simp [errW_none,errW_some] <;> rfl)|(simp only [← hji19,← hji22];first|rfl|(simp [errW_none,errW_some] <;> rfl))|(simp [*,errW_none,errW_some] <;> rfl),by first|exact Kd.R_nil _ _ _ _ _|exact Kd.N_nil _ _ _ _ _|exact Kd.V_nil _ _ _ _ _|exact Kd.Q_nil _ _ _ _ _|exact Kd.S_nil _ _ _ _ _,by repeat (first|(with_reducible first|exact HB.out|apply below_alloc|apply pw_below_drewN|apply below_drew1|refine below_set ?_ GE642.out|refine below_set ?_ GE643.out)|exact HB.out)⟩
           ·rw [if_neg c30] at H
            have c30b0 : ((bt (rdOf ByteArray.empty l0 (ji22)) a3) == 114) = false:=beq_eq_false_iff_ne.mpr c30
            have c30b1 : ((bt (rdOf ByteArray.empty l0 (ji22)) a3) != 114) = true:=bne_iff_ne.mpr c30
            replace H:=Option.bind_eq_some_iff.mp H
            obtain ⟨⟨t659,t660⟩,A570,H⟩:=H
            try dsimp only at H
            have A57:=am A570
            clear A570
            obtain ⟨ji58,hji58⟩ : ∃ j_ : Int,(wrap64 ((wrap64 ((ji19) + 1)) + a3)) = j_:=⟨_,rfl⟩
            replace H : (if 0 ≤ (ji58) then (if (ji58) < (t660.length : Int) then (some (t659,(t660.set ((ji58) : Int).toNat a4),true)) else (none)) else (none)) = some (r1,r2,r3):=by first|(rw [hji58] at H;exact H)|(simp only [hji58] at H ⊢;exact H)
            (try rw [hji58] at A25)
            (try rw [hji58] at A57)
            have hji58w : (IntKind.i64.wrap ((wrap64 ((ji19) + 1)) + a3)) = ji58:=(i64_w _).trans hji58
            by_cases c59 : 0 ≤ (ji58)
            ·rw [if_pos c59] at H
             have c59b0 : decide (0 ≤ (ji58)) = true:=decide_eq_true c59
             clear c59
             by_cases c60 : (ji58) < (t660.length : Int)
             ·rw [if_pos c60] at H
              have c60b0 : decide ((ji58) < (t660.length : Int)) = true:=decide_eq_true c60
              clear c60
              obtain ⟨y664,hy664⟩ : ∃ y_ : List Int,y_ = (t660.set ((ji58) : Int).toNat a4):=⟨_,rfl⟩
              replace H : (some (t659,y664,true)) = some (r1,r2,r3):=by first|(rw [hy664];with_reducible exact H)|(have H2_:=(Option.bind_some _ _).symm.trans H;rw [hy664];with_reducible exact H2_)|(have H2_:=(Option.bind_some _ _).symm.trans H;with_reducible exact H2_)|with_reducible exact H|(rw [hy664];exact H)|exact H
              have Ny664:=am hy664
              clear hy664
              simp only [Option.some.injEq,Prod.mk.injEq] at H
              obtain ⟨rfl,rfl,rfl⟩:=H
              have hnb62:=NB642_643.out
              have hnc62:=NB643_642.out
              have hcz63_0 : wc.cell? ⟨gb642,0,none⟩ = some (.int .i64 a1_0):=(blk_cell BK642.out 0).trans rfl
              have hcz63_1 : wc.cell? ⟨gb642,1,none⟩ = some (.slice A1_1 l1_1.length c1_1):=(blk_cell BK642.out 1).trans rfl
              have hfz63_0:=blk_frozen BK642.out 0
              have hfz63_1:=blk_frozen BK642.out 1
              have p649 : 0 ≤ ((ji19) : Int):=of_decide_eq_true (by first|(with_reducible assumption)|assumption)
              have q649 : (ji19) < (l1_1.length : Int):=of_decide_eq_true (by first|(with_reducible assumption)|assumption)
              obtain ⟨ad649,e649,hx649_0⟩:=Kd.at_int HR1_1.out (ji19) p649 q649
              cases e649
              replace hx649_0:=(HB.out.cell (World.block_lt_of_cell? w _ hx649_0)).trans hx649_0
              replace p649:=eq_true p649
              replace q649:=eq_true q649
              have p650 : 0 ≤ ((ji22) : Int):=of_decide_eq_true (by first|(with_reducible assumption)|assumption)
              have q650 : (ji22) < (l0.length : Int):=of_decide_eq_true (by first|(with_reducible assumption)|assumption)
              obtain ⟨ad650,e650,hx650_0⟩:=Kd.at_string HR0.out (ji22) p650 q650
              cases e650
              replace hx650_0:=(HB.out.cell (World.block_lt_of_cell? w _ hx650_0)).trans hx650_0
              replace p650:=eq_true p650
              replace q650:=eq_true q650
              go_wp2_with (first|((with_reducible refine gate_callee (f:=69) rfl ?_);refine goesL_ (some 45) rfl rfl Tryd.func69 (by kernel_rfl) rfl #[.int .i64 a3,.int .i64 0,.int .i64 (wrap64 (((rdOf ByteArray.empty l0 (ji22)).size : Int) - 1))] rfl (by (try simp only [List.map_toArray,List.map_cons,List.map_nil]);first|done|(simp only [hji22];rfl)|rfl|(simp only [List.length_drop,List.length_take];rfl)) ?_;(with_reducible refine (impl_within.calls a3 0 (wrap64 (((rdOf ByteArray.empty l0 (ji22)).size : Int) - 1)) true _ A25.out).mono ?_);rintro e w' ⟨rfl,⟨nd,rfl⟩⟩;refine ⟨_,rfl,?_⟩;(try (rw [drewN_self wc];generalize hq_ : World.drewN wc _ = wc;have n0_ : Aside0 (Kd.R (Kd.int .i64) 2 wc w.heap.size (fun _ => True) v645 t644):=⟨by rw [← hq_];exact (kup HO_12.out)⟩;have n1_ : Aside0 (wc.heap[gb642]? = some (.cells #[.int .i64 a1_0,.slice (some ad649) l1_1.length c1_1] 30 (0,0))):=⟨by rw [← hq_];exact (bup BK642.out)⟩;have n2_ : Aside0 (wc.heap[gb643]? = some (.cells #[.int .i64 0,.slice none 0 0] 30 (0,0))):=⟨by rw [← hq_];exact (bup BK643.out)⟩;have n3_ : Aside0 (Below w.heap.size w wc):=⟨by rw [← hq_];exact (by repeat (first|(with_reducible first|exact HB.out|apply below_alloc|apply pw_below_drewN|apply below_drew1|refine below_set ?_ GE642.out|refine below_set ?_ GE643.out)|exact HB.out))⟩;clear HO_12 BK642 BK643 HB hq_;have HO_12:=n0_;have BK642:=n1_;have BK643:=n2_;have HB:=n3_;clear n0_ n1_ n2_ n3_;have hcq8_0 : wc.cell? ⟨gb642,0,none⟩ = some (.int .i64 a1_0):=(blk_cell BK642.out 0).trans rfl;have hfq8_0:=blk_frozen BK642.out 0;have hcq8_1 : wc.cell? ⟨gb642,1,none⟩ = some (.slice (some ad649) l1_1.length c1_1):=(blk_cell BK642.out 1).trans rfl;have hfq8_1:=blk_frozen BK642.out 1;have hcq9_0 : wc.cell? ⟨gb643,0,none⟩ = some (.int .i64 0):=(blk_cell BK643.out 0).trans rfl;have hfq9_0:=blk_frozen BK643.out 0;have hcq9_1 : wc.cell? ⟨gb643,1,none⟩ = some (.slice none 0 0):=(blk_cell BK643.out 1).trans rfl;have hfq9_1:=blk_frozen BK643.out 1));have p29 : 0 ≤ (a3 : Int):=of_decide_eq_true (by first|(with_reducible assumption)|assumption);have q29 : a3 < ((rdOf ByteArray.empty l0 (ji22)).size : Int):=of_decide_eq_true (by first|(with_reducible assumption)|assumption);have hx29:=bt_at (rdOf ByteArray.empty l0 (ji22)) a3;replace p29:=eq_true p29;replace q29:=eq_true q29)|((with_reducible refine gate_callee (f:=72) rfl ?_);refine goesL_ (some 61) rfl rfl Tryd.func72 (by kernel_rfl) rfl #[.agg #[.int .i64 a1_0,.slice (some ad649) l1_1.length c1_1]] rfl (by (try simp only [List.map_toArray,List.map_cons,List.map_nil]);first|done|rfl|(simp only [List.length_drop,List.length_take];rfl)) ?_;(with_reducible refine (impl_ownNursery.calls a1_0 _ _ l1_1 t659 t660 _ ?side1 ?side2 A57.out).mono ?_);(case side1 => repeat (first|exact (Kd.C_below HR1_1.out HB.out)|(with_reducible first|refine Kd.C_alloc ?_ _|refine Kd.C_drewN ?_ _|refine Kd.C_drew ?_)));(case side2 => exact HC1_1.out);rintro e w64 ⟨v661,rfl,ho0,hb⟩;refine ⟨_,rfl,?_⟩;have n0_:=am (Kd.R_elder' (kup HO_12.out) (Kd.R_base ho0) hb);have n1_:=am (Kd.R_lower (Kd.R_new' ho0 (Kd.R_lt (kup HO_12.out))) (below_size (by repeat (first|(with_reducible first|exact HB.out|apply below_alloc|apply pw_below_drewN|apply below_drew1|refine below_set ?_ GE642.out|refine below_set ?_ GE643.out)|exact HB.out))));have n2_:=am (blk_below (g:=gb642) (o:=.cells #[.int .i64 a1_0,.slice (some ad649) l1_1.length c1_1] 30 (0,0)) (bup BK642.out) hb);have n3_:=am (blk_below (g:=gb643) (o:=.cells #[.int .i64 0,.slice none 0 0] 30 (0,0)) (bup BK643.out) hb);have n4_:=am (below_step (by repeat (first|(with_reducible first|exact HB.out|apply below_alloc|apply pw_below_drewN|apply below_drew1|refine below_set ?_ GE642.out|refine below_set ?_ GE643.out)|exact HB.out)) hb);clear HO_12 BK642 BK643 HB;have HO_12:=n0_;have HO662:=n1_;have BK642:=n2_;have BK643:=n3_;have HB:=n4_;clear n0_ n1_ n2_ n3_ n4_;(try clear hb);(try clear hb2);(try clear hk);(try clear hi);(try clear ho0))|((with_reducible refine gate_dst (N:=15) rfl ?_);refine box_event ?hg (N:=15) ?hd (cs:=#[.int .i64 0,.slice none 0 0]) (t:=30) ?hr ?_;(case hd => rfl);(case hg => rfl);(case hr => first|(go_simp;done)|(go_simp;rfl));intro gb663 hg w65 hbox hb;have n0_:=am (Kd.R_below (kup HO_12.out) hb);have n1_:=am (Kd.R_below (kup HO662.out) hb);have n2_:=am (blk_below (g:=gb642) (o:=.cells #[.int .i64 a1_0,.slice (some ad649) l1_1.length c1_1] 30 (0,0)) (bup BK642.out) hb);have n3_:=am (blk_below (g:=gb643) (o:=.cells #[.int .i64 0,.slice none 0 0] 30 (0,0)) (bup BK643.out) hb);have n4_:=am (below_step (by repeat (first|(with_reducible first|exact HB.out|apply below_alloc|apply pw_below_drewN|apply below_drew1|refine below_set ?_ GE642.out|refine below_set ?_ GE643.out)|exact HB.out)) hb);have n5_:=am (hbox);have n6_:=am ((by rw [hg];exact (below_size (by repeat (first|(with_reducible first|exact HB.out|apply below_alloc|apply pw_below_drewN|apply below_drew1|refine below_set ?_ GE642.out|refine below_set ?_ GE643.out)|exact HB.out))) : w.heap.size ≤ gb663));have n7_:=am ((by rw [hg];exact (below_size (by repeat (first|(with_reducible first|exact HB.out|apply below_alloc|apply pw_below_drewN|apply below_drew1|refine below_set ?_ GE642.out|refine below_set ?_ GE643.out)|exact HB.out))) : w.heap.size ≤ gb663));have n8_:=am ((by rw [hg];exact Nat.ne_of_lt (blk_lt (g:=gb642) (o:=.cells #[.int .i64 a1_0,.slice (some ad649) l1_1.length c1_1] 30 (0,0)) (bup BK642.out)) : gb642≠gb663));have n9_:=am ((by rw [hg];exact Nat.ne_of_gt (blk_lt (g:=gb642) (o:=.cells #[.int .i64 a1_0,.slice (some ad649) l1_1.length c1_1] 30 (0,0)) (bup BK642.out)) : gb663≠gb642));have n10_:=am ((by rw [hg];exact Nat.ne_of_lt (blk_lt (g:=gb643) (o:=.cells #[.int .i64 0,.slice none 0 0] 30 (0,0)) (bup BK643.out)) : gb643≠gb663));have n11_:=am ((by rw [hg];exact Nat.ne_of_gt (blk_lt (g:=gb643) (o:=.cells #[.int .i64 0,.slice none 0 0] 30 (0,0)) (bup BK643.out)) : gb663≠gb643));clear HO_12 HO662 BK642 BK643 HB;have HO_12:=n0_;have HO662:=n1_;have BK642:=n2_;have BK643:=n3_;have HB:=n4_;have BK663:=n5_;have GW663:=n6_;have GE663:=n7_;have NB642_663:=n8_;have NB663_642:=n9_;have NB643_663:=n10_;have NB663_643:=n11_;clear n0_ n1_ n2_ n3_ n4_ n5_ n6_ n7_ n8_ n9_ n10_ n11_;clear hb hbox hg;have hnb66:=NB663_642.out;have hnc66:=NB642_663.out;have hnb67:=NB663_643.out;have hnc67:=NB643_663.out;have hcz68_0 : w65.cell? ⟨gb663,0,none⟩ = some (.int .i64 0):=(blk_cell BK663.out 0).trans rfl;have hcz68_1 : w65.cell? ⟨gb663,1,none⟩ = some (.slice none 0 0):=(blk_cell BK663.out 1).trans rfl;have hfz68_0:=blk_frozen BK663.out 0;have hfz68_1:=blk_frozen BK663.out 1;obtain ⟨Ao69,co69,eo69⟩:=Kd.R_slice HO662.out;subst eo69)|((with_reducible refine gate_store (t:=30) (p:=15) rfl ?_);refine store_event (t:=30) (p:=15) (v:=?vo_w70) (w1:=((w65.setCell ⟨gb663,0,none⟩ (.int .i64 t659)).setCell ⟨gb663,1,none⟩ (.slice Ao69 t660.length co69))) ?hg ?ho ?hn ?hr ?_;(case ho => rfl);(case hg => rfl);(case hn => rfl);(case hr => first|(go_simp;done)|(go_simp;rfl));intro w70 hw;have n0_ : Aside0 (Kd.R (Kd.int .i64) 2 w70 w.heap.size (fun k_ => some k_≠(.slice Ao69 t660.length co69 : Value).ownBlock) v645 t644):=⟨(by rw [hw];exact (by (with_reducible repeat (first|apply Kd.R_alloc|apply Kd.R_drewN|apply Kd.R_drew));exact Kd.R_mono (Kd.R_far (p:=⟨gb663,1,none⟩) (Kd.R_far (p:=⟨gb663,0,none⟩) (Kd.R_types HO_12.out BK663.out (by decide)) (fun _ hk => hk.2) (.int .i64 t659)) (fun _ hk => hk.2) (.slice Ao69 t660.length co69)) (fun _ hk => by first|exact hk.1.2|(first|exact hk.2|exact hk.1.2|exact hk.1.1.2|exact hk.1.1.1.2|exact hk.1.1.1.1.2|exact hk.1.1.1.1.1.2|exact hk|exact hk.1|exact hk.1.1|exact hk.1.1.1|exact hk.1.1.1.1|exact hk.1.1.1.1.1|exact trivial)|(refine ⟨?_,?_⟩ <;> first|exact hk.2|exact hk.1.2|exact hk.1.1.2|exact hk.1.1.1.2|exact hk.1.1.1.1.2|exact hk.1.1.1.1.1.2|exact hk|exact hk.1|exact hk.1.1|exact hk.1.1.1|exact hk.1.1.1.1|exact hk.1.1.1.1.1|exact trivial))))⟩;have n1_ : Aside0 (Kd.R (Kd.int .i64) 2 w70 w.heap.size (fun k_ => some k_≠(v645 : Value).ownBlock) (.slice Ao69 t660.length co69) t660):=⟨(by rw [hw];exact (by (with_reducible repeat (first|apply Kd.R_alloc|apply Kd.R_drewN|apply Kd.R_drew));exact Kd.R_mono (Kd.R_far (p:=⟨gb663,1,none⟩) (Kd.R_far (p:=⟨gb663,0,none⟩) (Kd.R_types HO662.out BK663.out (by decide)) (fun _ hk => hk.2) (.int .i64 t659)) (fun _ hk => hk.2) (.slice Ao69 t660.length co69)) (fun _ hk => by first|exact hk.1.2|(first|exact hk.2|exact hk.1.2|exact hk.1.1.2|exact hk.1.1.1.2|exact hk.1.1.1.1.2|exact hk.1.1.1.1.1.2|exact hk|exact hk.1|exact hk.1.1|exact hk.1.1.1|exact hk.1.1.1.1|exact hk.1.1.1.1.1|exact trivial)|(refine ⟨?_,?_⟩ <;> first|exact hk.2|exact hk.1.2|exact hk.1.1.2|exact hk.1.1.1.2|exact hk.1.1.1.1.2|exact hk.1.1.1.1.1.2|exact hk|exact hk.1|exact hk.1.1|exact hk.1.1.1|exact hk.1.1.1.1|exact hk.1.1.1.1.1|exact trivial))))⟩;have n2_ : Aside0 (w70.heap[gb642]? = some (.cells #[.int .i64 a1_0,.slice (some ad649) l1_1.length c1_1] 30 (0,0))):=⟨(by rw [hw];exact (by (with_reducible repeat (first|refine blk_drewN ?_ _|refine blk_drew ?_|refine blk_alloc ?_ _));refine blk_far ?_ NB642_663.out _;(with_reducible repeat (first|refine blk_drewN ?_ _|refine blk_drew ?_|refine blk_alloc ?_ _));refine blk_far ?_ NB642_663.out _;(with_reducible repeat (first|refine blk_drewN ?_ _|refine blk_drew ?_|refine blk_alloc ?_ _));exact BK642.out))⟩;have n3_ : Aside0 (w70.heap[gb643]? = some (.cells #[.int .i64 0,.slice none 0 0] 30 (0,0))):=⟨(by rw [hw];exact (by (with_reducible repeat (first|refine blk_drewN ?_ _|refine blk_drew ?_|refine blk_alloc ?_ _));refine blk_far ?_ NB643_663.out _;(with_reducible repeat (first|refine blk_drewN ?_ _|refine blk_drew ?_|refine blk_alloc ?_ _));refine blk_far ?_ NB643_663.out _;(with_reducible repeat (first|refine blk_drewN ?_ _|refine blk_drew ?_|refine blk_alloc ?_ _));exact BK643.out))⟩;have n4_ : Aside0 (w70.heap[gb663]? = some (.cells #[.int .i64 t659,.slice Ao69 t660.length co69] 30 (0,0))):=⟨(by rw [hw];exact (by (with_reducible repeat (first|refine blk_drewN ?_ _|refine blk_drew ?_|refine blk_alloc ?_ _));refine blk_put (cs:=#[.int .i64 t659,.slice none 0 0]) ?_ 1 _ rfl;(with_reducible repeat (first|refine blk_drewN ?_ _|refine blk_drew ?_|refine blk_alloc ?_ _));refine blk_put (cs:=#[.int .i64 0,.slice none 0 0]) ?_ 0 _ rfl;(with_reducible repeat (first|refine blk_drewN ?_ _|refine blk_drew ?_|refine blk_alloc ?_ _));exact BK663.out))⟩;have n5_ : Aside0 (Below w.heap.size w w70):=⟨(by rw [hw];exact (by repeat (first|(with_reducible first|exact HB.out|apply below_alloc|apply pw_below_drewN|apply below_drew1|refine below_set ?_ GE642.out|refine below_set ?_ GE643.out|refine below_set ?_ GE663.out)|exact HB.out)))⟩;clear hw HO_12 HO662 BK642 BK643 BK663 HB;have HO_12:=n0_;have HO662:=n1_;have BK642:=n2_;have BK643:=n3_;have BK663:=n4_;have HB:=n5_;clear n0_ n1_ n2_ n3_ n4_ n5_;have hcz71_0 : w70.cell? ⟨gb663,0,none⟩ = some (.int .i64 t659):=(blk_cell BK663.out 0).trans rfl;have hcz71_1 : w70.cell? ⟨gb663,1,none⟩ = some (.slice Ao69 t660.length co69):=(blk_cell BK663.out 1).trans rfl;have hfz71_0:=blk_frozen BK663.out 0;have hfz71_1:=blk_frozen BK663.out 1;have p61 : 0 ≤ ((ji58) : Int):=of_decide_eq_true (by first|(with_reducible assumption)|assumption);have q61 : ((ji58) : Int) < ((t660.length : Int) : Int):=of_decide_eq_true (by first|(with_reducible assumption)|assumption);obtain ⟨go61,co61,eo61,gb61,gl61,cl61,HG61⟩:=Kd.R_form HO662.out (by omega);(first|cases eo61|(injection eo61 with ea_ en_ ec_;(first|subst ea_|(injection ea_ with ea_;subst ea_));subst ec_;clear en_));have GB61:=am gb61;have GG61:=am HG61;clear gb61 gl61 HG61;obtain ⟨hx61_0,hf61_0⟩:=Kd.R_celln 0 HO662.out ((ji58) : Int) p61 q61;replace p61:=eq_true p61;replace q61:=eq_true q61;obtain ⟨hy72_,hz72_⟩:=Kd.R_celln 0 HO662.out ((ji58) : Int) (of_decide_eq_true (by first|(with_reducible assumption)|assumption)) (of_decide_eq_true (by first|(with_reducible assumption)|assumption));have HP72:=Kd.R_putg HO662.out ((ji58) : Int) a4)|((with_reducible refine gate_store (t:=2) (p:=70) rfl ?_);refine store_event (t:=2) (p:=70) (v:=?vo_w73) (w1:=(w70.setCell ⟨go61,((ji58) : Int).toNat,none⟩ (.int .i64 a4))) ?hg ?ho ?hn ?hr ?_;(case ho => rfl);(case hg => rfl);(case hn => rfl);(case hr => first|(go_simp;done)|(go_simp;rfl));intro w73 hw;have hg : w70.grownBy w73 (some go61):=(by rw [hw];exact HP72.2);have hp_ : Kd.R (Kd.int .i64) 2 w73 w.heap.size (fun k_ => some k_≠(v645 : Value).ownBlock) (.slice (some ⟨go61,0,none⟩) t660.length co69) y664:=(by rw [hw,Ny664.out];exact HP72.1);clear HP72;have n0_:=am (Kd.R_after (v:=(.slice (some ⟨go61,0,none⟩) t660.length co69)) (v1:=(.slice (some ⟨go61,0,none⟩) t660.length co69)) (ok:=(fun _ => True)) (by (with_reducible repeat (first|apply Kd.R_alloc|apply Kd.R_drewN|apply Kd.R_drew));exact Kd.R_mono HO_12.out (fun _ hk => ⟨trivial,hk⟩)) hg (.inl rfl));have n1_:=am (blk_grown (g:=gb642) (o:=.cells #[.int .i64 a1_0,.slice (some ad649) l1_1.length c1_1] 30 (0,0)) (bup BK642.out) hg (Kd.R_ne HO662.out BK642.out (by decide)));have n2_:=am (blk_grown (g:=gb643) (o:=.cells #[.int .i64 0,.slice none 0 0] 30 (0,0)) (bup BK643.out) hg (Kd.R_ne HO662.out BK643.out (by decide)));have n3_:=am (hp_);have n4_:=am (blk_grown (g:=gb663) (o:=.cells #[.int .i64 t659,.slice (some ⟨go61,0,none⟩) t660.length co69] 30 (0,0)) (bup BK663.out) hg (Kd.R_ne HO662.out BK663.out (by decide)));have n5_:=am ((by rw [hw];exact below_set (HB.out) GB61.out : Below w.heap.size w w73));clear HO_12 BK642 BK643 HO662 BK663 HB;have HO_12:=n0_;have BK642:=n1_;have BK643:=n2_;have HO662:=n3_;have BK663:=n4_;have HB:=n5_;clear n0_ n1_ n2_ n3_ n4_ n5_;clear hg hw hp_;have hcz74_0 : w73.cell? ⟨gb663,0,none⟩ = some (.int .i64 t659):=(blk_cell BK663.out 0).trans rfl;have hcz74_1 : w73.cell? ⟨gb663,1,none⟩ = some (.slice (some ⟨go61,0,none⟩) t660.length co69):=(blk_cell BK663.out 1).trans rfl;have hfz74_0:=blk_frozen BK663.out 0;have hfz74_1:=blk_frozen BK663.out 1;have hcz75_0 : w73.cell? ⟨gb643,0,none⟩ = some (.int .i64 0):=(blk_cell BK643.out 0).trans rfl;have hcz75_1 : w73.cell? ⟨gb643,1,none⟩ = some (.slice none 0 0):=(blk_cell BK643.out 1).trans rfl;have hfz75_0:=blk_frozen BK643.out 0;have hfz75_1:=blk_frozen BK643.out 1))
              refine bodyPost_ret (results_ct rfl _ _ gb643 30 #[.int .i64 t659,.slice (some ⟨go61,0,none⟩) t660.length co69] (0,0) _ rfl (by (with_reducible repeat (first|refine blk_drewN ?_ _|refine blk_drew ?_|refine blk_alloc ?_ _));refine blk_put (cs:=#[.int .i64 t659,.slice none 0 0]) ?_ 1 _ rfl;(with_reducible repeat (first|refine blk_drewN ?_ _|refine blk_drew ?_|refine blk_alloc ?_ _));refine blk_put (cs:=#[.int .i64 0,.slice none 0 0]) ?_ 0 _ rfl;(with_reducible repeat (first|refine blk_drewN ?_ _|refine blk_drew ?_|refine blk_alloc ?_ _));exact BK643.out) Tryd.underlying30 rfl (by kernel_rfl)) rfl ?_
              exact ⟨_,by first|rfl|(simp [errW_none,errW_some] <;> rfl)|(simp only [← hji19,← hji22,← hji58];first|rfl|(simp [errW_none,errW_some] <;> rfl))|(simp [*,errW_none,errW_some] <;> rfl),by (with_reducible repeat (first|apply Kd.R_alloc|apply Kd.R_drewN|apply Kd.R_drew));exact Kd.R_mono (Kd.R_far (p:=⟨gb643,1,none⟩) (Kd.R_far (p:=⟨gb643,0,none⟩) (Kd.R_types HO662.out BK643.out (by decide)) (fun _ hk => hk.2) (.int .i64 t659)) (fun _ hk => hk.2) (.slice (some ⟨go61,0,none⟩) t660.length co69)) (fun _ hk => trivial),by repeat (first|(with_reducible first|exact HB.out|apply below_alloc|apply pw_below_drewN|apply below_drew1|refine below_set ?_ GE642.out|refine below_set ?_ GE643.out|refine below_set ?_ GE663.out)|exact HB.out)⟩
             ·rw [if_neg c60] at H
              exact absurd H (by simp)
            ·rw [if_neg c59] at H
             exact absurd H (by simp)
          ·rw [if_neg c28] at H
           exact absurd H (by simp)
         ·rw [if_neg c27] at H
          exact absurd H (by simp)
        ·replace c26:=Bool.eq_false_iff.mpr c26
         subst c26
         have H1 : (some (0,([] : List Int),false)) = some (r1,r2,r3):=by rw [if_neg (show ¬ (false = true) by decide)] at H;exact H
         clear H
         have H:=H1
         clear H1
         simp only [Option.some.injEq,Prod.mk.injEq] at H
         obtain ⟨rfl,rfl,rfl⟩:=H
         have hnb76:=NB642_643.out
         have hnc76:=NB643_642.out
         have hcz77_0 : wc.cell? ⟨gb642,0,none⟩ = some (.int .i64 a1_0):=(blk_cell BK642.out 0).trans rfl
         have hcz77_1 : wc.cell? ⟨gb642,1,none⟩ = some (.slice A1_1 l1_1.length c1_1):=(blk_cell BK642.out 1).trans rfl
         have hfz77_0:=blk_frozen BK642.out 0
         have hfz77_1:=blk_frozen BK642.out 1
         have p649 : 0 ≤ ((ji19) : Int):=of_decide_eq_true (by first|(with_reducible assumption)|assumption)
         have q649 : (ji19) < (l1_1.length : Int):=of_decide_eq_true (by first|(with_reducible assumption)|assumption)
         obtain ⟨ad649,e649,hx649_0⟩:=Kd.at_int HR1_1.out (ji19) p649 q649
         cases e649
         replace hx649_0:=(HB.out.cell (World.block_lt_of_cell? w _ hx649_0)).trans hx649_0
         replace p649:=eq_true p649
         replace q649:=eq_true q649
         have p650 : 0 ≤ ((ji22) : Int):=of_decide_eq_true (by first|(with_reducible assumption)|assumption)
         have q650 : (ji22) < (l0.length : Int):=of_decide_eq_true (by first|(with_reducible assumption)|assumption)
         obtain ⟨ad650,e650,hx650_0⟩:=Kd.at_string HR0.out (ji22) p650 q650
         cases e650
         replace hx650_0:=(HB.out.cell (World.block_lt_of_cell? w _ hx650_0)).trans hx650_0
         replace p650:=eq_true p650
         replace q650:=eq_true q650
         go_wp2_with (first|((with_reducible refine gate_callee (f:=69) rfl ?_);refine goesL_ (some 45) rfl rfl Tryd.func69 (by kernel_rfl) rfl #[.int .i64 a3,.int .i64 0,.int .i64 (wrap64 (((rdOf ByteArray.empty l0 (ji22)).size : Int) - 1))] rfl (by (try simp only [List.map_toArray,List.map_cons,List.map_nil]);first|done|(simp only [hji22];rfl)|rfl|(simp only [List.length_drop,List.length_take];rfl)) ?_;(with_reducible refine (impl_within.calls a3 0 (wrap64 (((rdOf ByteArray.empty l0 (ji22)).size : Int) - 1)) false _ A25.out).mono ?_);rintro e w' ⟨rfl,⟨nd,rfl⟩⟩;refine ⟨_,rfl,?_⟩;(try (rw [drewN_self wc];generalize hq_ : World.drewN wc _ = wc;have n0_ : Aside0 (Kd.R (Kd.int .i64) 2 wc w.heap.size (fun _ => True) v645 t644):=⟨by rw [← hq_];exact (kup HO_12.out)⟩;have n1_ : Aside0 (wc.heap[gb642]? = some (.cells #[.int .i64 a1_0,.slice (some ad649) l1_1.length c1_1] 30 (0,0))):=⟨by rw [← hq_];exact (bup BK642.out)⟩;have n2_ : Aside0 (wc.heap[gb643]? = some (.cells #[.int .i64 0,.slice none 0 0] 30 (0,0))):=⟨by rw [← hq_];exact (bup BK643.out)⟩;have n3_ : Aside0 (Below w.heap.size w wc):=⟨by rw [← hq_];exact (lup HB.out)⟩;clear HO_12 BK642 BK643 HB hq_;have HO_12:=n0_;have BK642:=n1_;have BK643:=n2_;have HB:=n3_;clear n0_ n1_ n2_ n3_;have hcq10_0 : wc.cell? ⟨gb642,0,none⟩ = some (.int .i64 a1_0):=(blk_cell BK642.out 0).trans rfl;have hfq10_0:=blk_frozen BK642.out 0;have hcq10_1 : wc.cell? ⟨gb642,1,none⟩ = some (.slice (some ad649) l1_1.length c1_1):=(blk_cell BK642.out 1).trans rfl;have hfq10_1:=blk_frozen BK642.out 1;have hcq11_0 : wc.cell? ⟨gb643,0,none⟩ = some (.int .i64 0):=(blk_cell BK643.out 0).trans rfl;have hfq11_0:=blk_frozen BK643.out 0;have hcq11_1 : wc.cell? ⟨gb643,1,none⟩ = some (.slice none 0 0):=(blk_cell BK643.out 1).trans rfl;have hfq11_1:=blk_frozen BK643.out 1));have hcz78_0 : wc.cell? ⟨gb643,0,none⟩ = some (.int .i64 0):=(blk_cell BK643.out 0).trans rfl;have hcz78_1 : wc.cell? ⟨gb643,1,none⟩ = some (.slice none 0 0):=(blk_cell BK643.out 1).trans rfl;have hfz78_0:=blk_frozen BK643.out 0;have hfz78_1:=blk_frozen BK643.out 1))
         refine bodyPost_ret (results_ct rfl _ _ gb643 30 #[.int .i64 0,.slice none 0 0] (0,0) _ rfl (by (with_reducible repeat (first|refine blk_drewN ?_ _|refine blk_drew ?_|refine blk_alloc ?_ _));refine blk_put (cs:=#[.int .i64 0,.slice none 0 0]) ?_ 1 _ rfl;(with_reducible repeat (first|refine blk_drewN ?_ _|refine blk_drew ?_|refine blk_alloc ?_ _));refine blk_put (cs:=#[.int .i64 0,.slice none 0 0]) ?_ 0 _ rfl;(with_reducible repeat (first|refine blk_drewN ?_ _|refine blk_drew ?_|refine blk_alloc ?_ _));exact BK643.out) Tryd.underlying30 rfl (by kernel_rfl)) rfl ?_
         exact ⟨_,by first|rfl|(simp [errW_none,errW_some] <;> rfl)|(simp only [← hji19,← hji22];first|rfl|(simp [errW_none,errW_some] <;> rfl))|(simp [*,errW_none,errW_some] <;> rfl),by first|exact Kd.R_nil _ _ _ _ _|exact Kd.N_nil _ _ _ _ _|exact Kd.V_nil _ _ _ _ _|exact Kd.Q_nil _ _ _ _ _|exact Kd.S_nil _ _ _ _ _,by repeat (first|(with_reducible first|exact HB.out|apply below_alloc|apply pw_below_drewN|apply below_drew1|refine below_set ?_ GE642.out|refine below_set ?_ GE643.out)|exact HB.out)⟩
       ·rw [if_neg c24] at H
        exact absurd H (by simp)
      ·rw [if_neg c23] at H
       exact absurd H (by simp)
     ·rw [if_neg c21] at H
      exact absurd H (by simp)
    ·rw [if_neg c20] at H
     exact absurd H (by simp)

end Go.Proofs.YtgfeafcgpeclcaaDoor.X
