/- The Lean functions that the machine tells of the program. (Merged out of this claim's own texts.) -/
import Derived.Test.YtgfeafcgpeclcaaDoorBFnMinorTwice2
import Derived.Shelf.Strings.SlTrimAscii
namespace Go.Proofs.YtgfeafcgpeclcaaDoor.Abs
open Go Go.RowKit
set_option linter.unusedVariables false
set_option linter.unusedSectionVars false
set_option linter.unusedSimpArgs false
noncomputable section
def laws_big.f (a0 : List Int) : Option (Bool) := (some (decide ((a0.length : Int) > 1048576)))
def spec_l1Open.f (a0 : List Int) : Option (List Int × Int) := (some (a0, 0))
def spec_l1Rd_next.f (a0_0 : List Int) (a0_1 : Int) : Option (List Int × Int × Int) := (if a0_1 ≥ (a0_0.length : Int) then (some (a0_0, a0_1, 0)) else (if 0 ≤ (wrap64 ((wrap64 (a0_1 + 1)) - 1)) then (if (wrap64 ((wrap64 (a0_1 + 1)) - 1)) < (a0_0.length : Int) then (some (a0_0, (wrap64 (a0_1 + 1)), (wrap64 (rd a0_0 (wrap64 ((wrap64 (a0_1 + 1)) - 1)))))) else none) else none))
def spec_l1Rd_below.f (a0_0 : List Int) (a0_1 : Int) (a1 : Int) : Option (List Int × Int × Int) := (if a1 ≤ 1 then (some (a0_0, a0_1, 0)) else (if a1 ≤ 256 then ((spec_l1Rd_next.f a0_0 a0_1).bind fun t1 => (if a1 = 0 then none else (some (t1.1, t1.2.1, (Int.tmod t1.2.2 a1))))) else ((spec_l1Rd_next.f a0_0 a0_1).bind fun t2 => ((spec_l1Rd_next.f t2.1 t2.2.1).bind fun t3 => (if a1 = 0 then none else (some (t3.1, t3.2.1, (Int.tmod (wrap64 ((wrap64 (t2.2.2 * 256)) + t3.2.2)) a1))))))))
def spec_l1Rd_once.f (a0_0 : List Int) (a0_1 : Int) (a1 : Int) : Option (List Int × Int × Bool) := ((spec_l1Rd_below.f a0_0 a0_1 a1).bind fun t1 => (some (t1.1, t1.2.1, (decide (t1.2.2 = (wrap64 (a1 - 1)))))))
def spec_l1Rd_kinds.p8 : Nat → List Int → Int → ByteArray → Int → Option (List Int × Int × ByteArray)
 | 0, _, _, _, _ => none
 | k + 1, h0_0, h0_1, x5, x6 => (if x6 > 0 then ((spec_l1Rd_below.f h0_0 h0_1 2).bind fun t2 => (if 0 ≤ t2.2.2 then (if t2.2.2 < 2 then (if x5.size + (rdOf ByteArray.empty ([(⟨#[105]⟩ : ByteArray), (⟨#[114]⟩ : ByteArray)] : List ByteArray) t2.2.2).size ≤ 9223372036854775807 then (spec_l1Rd_kinds.p8 k t2.1 t2.2.1 (x5 ++ (rdOf ByteArray.empty ([(⟨#[105]⟩ : ByteArray), (⟨#[114]⟩ : ByteArray)] : List ByteArray) t2.2.2)) (wrap64 (x6 - 1))) else none) else none) else none)) else (some (h0_0, h0_1, x5)))
def spec_l1Rd_kinds.f (k : Nat) (a0_0 : List Int) (a0_1 : Int) (a1 : Int) : Option (List Int × Int × ByteArray) := ((spec_l1Rd_below.f a0_0 a0_1 a1).bind fun t1 => (spec_l1Rd_kinds.p8 k t1.1 t1.2.1 (⟨#[]⟩ : ByteArray) (wrap64 (1 + t1.2.2))))
def spec_l1Rd_types.p8 : Nat → List Int → Int → List ByteArray → Int → Option (List Int × Int × List ByteArray)
 | 0, _, _, _, _ => none
 | k + 1, h0_0, h0_1, x3, x4 => (if x4 > 0 then ((spec_l1Rd_once.f h0_0 h0_1 4).bind fun t3 => (if t3.2.2 = true then ((spec_l1Rd_kinds.f k t3.1 t3.2.1 23).bind fun t4 => (if x3.length + 1 ≤ 8796093022208 then (spec_l1Rd_types.p8 k t4.1 t4.2.1 (x3 ++ ([t4.2.2] : List ByteArray)) (wrap64 (x4 - 1))) else none)) else ((spec_l1Rd_kinds.f k t3.1 t3.2.1 5).bind fun t5 => (if x3.length + 1 ≤ 8796093022208 then (spec_l1Rd_types.p8 k t5.1 t5.2.1 (x3 ++ ([t5.2.2] : List ByteArray)) (wrap64 (x4 - 1))) else none)))) else (some (h0_0, h0_1, x3)))
def spec_l1Rd_types.f (k : Nat) (a0_0 : List Int) (a0_1 : Int) : Option (List Int × Int × List ByteArray) := ((spec_l1Rd_below.f a0_0 a0_1 4).bind fun t1 => (if 0 ≤ t1.2.2 then (if t1.2.2 < 4 then ((spec_l1Rd_below.f t1.1 t1.2.1 3).bind fun t2 => (spec_l1Rd_types.p8 k t2.1 t2.2.1 ([(rdOf ByteArray.empty ([(⟨#[105, 114]⟩ : ByteArray), (⟨#[114, 114, 105]⟩ : ByteArray), (⟨#[114, 105]⟩ : ByteArray), (⟨#[105, 114, 114]⟩ : ByteArray)] : List ByteArray) t1.2.2)] : List ByteArray) t2.2.2)) else none) else none))
def spec_l1Rd_size.f (a0_0 : List Int) (a0_1 : Int) (a1 : Int) (a2 : Int) : Option (List Int × Int × Int) := (if a1 = 0 then none else (if (wrap64 (1 + (wrap64 (Int.tdiv (a0_0.length : Int) a1)))) > a2 then ((spec_l1Rd_below.f a0_0 a0_1 a2).bind fun t1 => (some (t1.1, t1.2.1, (wrap64 (1 + t1.2.2))))) else ((spec_l1Rd_below.f a0_0 a0_1 (wrap64 (1 + (wrap64 (Int.tdiv (a0_0.length : Int) a1))))).bind fun t2 => (some (t2.1, t2.2.1, (wrap64 (1 + t2.2.2)))))))
def spec_l1In.f (a0 : Int) (a1 : Int) (a2 : Int) : Option (Bool) := (if a0 ≥ a1 then (some (decide (a0 ≤ a2))) else (some false))
def spec_l3Type.p6 : Nat → ByteArray → Int → Option (Bool)
 | 0, _, _ => none
 | k + 1, x0, x3 => (if x3 < (x0.size : Int) then (if 0 ≤ x3 then (if x3 < (x0.size : Int) then (if (byteAt x0 x3) = 105 then (spec_l3Type.p6 k x0 (wrap64 (x3 + 1))) else (if 0 ≤ x3 then (if x3 < (x0.size : Int) then (if (byteAt x0 x3) = 114 then (spec_l3Type.p6 k x0 (wrap64 (x3 + 1))) else (some false)) else none) else none)) else none) else none) else ((spec_l1In.f (x0.size : Int) 1 23).bind fun t1 => (some t1)))
def spec_l3Type.f (k : Nat) (a0 : ByteArray) : Option (Bool) := (spec_l3Type.p6 k a0 0)
def spec_TypesOk.p14 : Nat → List ByteArray → Int → Option (Bool)
 | 0, _, _ => none
 | k + 1, x0, x3 => (if x3 < (x0.length : Int) then (if 0 ≤ x3 then (if x3 < (x0.length : Int) then ((spec_l3Type.f k (rdOf ByteArray.empty x0 x3)).bind fun t2 => (if t2 = true then (spec_TypesOk.p14 k x0 (wrap64 (x3 + 1))) else (some false))) else none) else none) else (some true))
def spec_TypesOk.f (k : Nat) (a0 : List ByteArray) : Option (Bool) := ((spec_l1In.f (a0.length : Int) 1 12).bind fun t1 => (if t1 = true then (spec_TypesOk.p14 k a0 0) else (some false)))
def spec_l8Parse.p16 : Nat → List ByteArray → Int → List Int → List Int → Int → Option (List Int × Bool)
 | 0, _, _, _, _, _ => none
 | k + 1, x0, x3_0, x3_1, x6, x7 => (if x7 < (x3_1.length : Int) then (if 0 ≤ x7 then (if x7 < (x3_1.length : Int) then (if 0 ≤ x7 then (if x7 < (x3_1.length : Int) then (if (rd x3_1 x7) < 0 then (some (([] : List Int), false)) else (if (wrap64 (Int.tdiv (rd x3_1 x7) 4)) ≥ (x0.length : Int) then (some (([] : List Int), false)) else (if 0 ≤ (wrap64 (Int.tdiv (rd x3_1 x7) 4)) then (if (wrap64 (Int.tdiv (rd x3_1 x7) 4)) < (x0.length : Int) then (if (wrap64 ((wrap64 (x7 + 1)) + ((rdOf ByteArray.empty x0 (wrap64 (Int.tdiv (rd x3_1 x7) 4))).size : Int))) > (x3_1.length : Int) then (some (([] : List Int), false)) else (if x6.length + 1 ≤ 17592186044416 then (if 0 ≤ (wrap64 (Int.tdiv (rd x3_1 x7) 4)) then (if (wrap64 (Int.tdiv (rd x3_1 x7) 4)) < (x0.length : Int) then (spec_l8Parse.p16 k x0 x3_0 x3_1 (x6 ++ ([x7] : List Int)) (wrap64 ((wrap64 (x7 + 1)) + ((rdOf ByteArray.empty x0 (wrap64 (Int.tdiv (rd x3_1 x7) 4))).size : Int)))) else none) else none) else none)) else none) else none))) else none) else none) else none) else none) else (some (x6, true)))
def spec_l8Parse.f (k : Nat) (a0 : List ByteArray) (a1_0 : Int) (a1_1 : List Int) : Option (List Int × Bool) := ((spec_TypesOk.f k a0).bind fun t1 => (if t1 = true then ((spec_l1In.f a1_0 2 400).bind fun t2 => (if t2 = true then (if (a1_1.length : Int) > a1_0 then (some (([] : List Int), false)) else (spec_l8Parse.p16 k a0 a1_0 a1_1 ([] : List Int) 0)) else (some (([] : List Int), false)))) else (some (([] : List Int), false))))
def spec_RefKind.f (a0 : Int) : Option (Int) := (if a0 = 0 then (some 0) else ((spec_l1In.f a0 2 254).bind fun t1 => (if t1 = true then (if (Int.tmod a0 2) = 0 then (some 1) else ((spec_l1In.f a0 1 799).bind fun t2 => (if t2 = true then (if (Int.tmod a0 2) = 1 then (some 2) else (some (-1))) else (some (-1))))) else ((spec_l1In.f a0 1 799).bind fun t3 => (if t3 = true then (if (Int.tmod a0 2) = 1 then (some 2) else (some (-1))) else (some (-1)))))))
def spec_l7Place.p6 : Nat → List Int → Int → Int → Option (Int)
 | 0, _, _, _ => none
 | k + 1, x0, x1, x5 => (if x5 < (x0.length : Int) then (if 0 ≤ x5 then (if x5 < (x0.length : Int) then (if (rd x0 x5) = x1 then (some x5) else (spec_l7Place.p6 k x0 x1 (wrap64 (x5 + 1)))) else none) else none) else (some (-1)))
def spec_l7Place.f (k : Nat) (a0 : List Int) (a1 : Int) : Option (Int) := (spec_l7Place.p6 k a0 a1 0)
def spec_l8Ref.f (k : Nat) (a0 : List Int) (a1 : Int) : Option (Bool) := ((spec_RefKind.f a1).bind fun t1 => (if t1 = 0 then (some true) else (if t1 = 1 then (some true) else (if t1 = 2 then ((spec_l7Place.f k a0 (wrap64 (Int.tdiv a1 2))).bind fun t2 => (some (decide (t2 ≥ 0)))) else (some false)))))
mutual
def spec_NurseryOk.p16 : Nat → List ByteArray → Int → List Int → List Int → Int → Option (Bool)
 | 0, _, _, _, _, _ => none
 | k + 1, x0, x3_0, x3_1, x5, x7 => (if x7 < (x5.length : Int) then (if 0 ≤ x7 then (if x7 < (x5.length : Int) then (if 0 ≤ (rd x5 x7) then (if (rd x5 x7) < (x3_1.length : Int) then (if 0 ≤ (wrap64 (Int.tdiv (rd x3_1 (rd x5 x7)) 4)) then (if (wrap64 (Int.tdiv (rd x3_1 (rd x5 x7)) 4)) < (x0.length : Int) then (spec_NurseryOk.p30 k x0 x3_0 x3_1 x5 x7 (rdOf ByteArray.empty x0 (wrap64 (Int.tdiv (rd x3_1 (rd x5 x7)) 4))) 0) else none) else none) else none) else none) else none) else none) else (some true))
def spec_NurseryOk.p30 : Nat → List ByteArray → Int → List Int → List Int → Int → ByteArray → Int → Option (Bool)
 | 0, _, _, _, _, _, _, _ => none
 | k + 1, x0, x3_0, x3_1, x5, x7, x8, x9 => (if x9 < (x8.size : Int) then (if 0 ≤ x9 then (if x9 < (x8.size : Int) then (if (byteAt x8 x9) = 114 then (if 0 ≤ x7 then (if x7 < (x5.length : Int) then (if 0 ≤ (wrap64 ((wrap64 ((rd x5 x7) + 1)) + x9)) then (if (wrap64 ((wrap64 ((rd x5 x7) + 1)) + x9)) < (x3_1.length : Int) then ((spec_l8Ref.f k x5 (rd x3_1 (wrap64 ((wrap64 ((rd x5 x7) + 1)) + x9)))).bind fun t2 => (if t2 = true then (spec_NurseryOk.p30 k x0 x3_0 x3_1 x5 x7 x8 (wrap64 (x9 + 1))) else (some false))) else none) else none) else none) else none) else (spec_NurseryOk.p30 k x0 x3_0 x3_1 x5 x7 x8 (wrap64 (x9 + 1)))) else none) else none) else (spec_NurseryOk.p16 k x0 x3_0 x3_1 x5 (wrap64 (x7 + 1))))
end
def spec_NurseryOk.f (k : Nat) (a0 : List ByteArray) (a1_0 : Int) (a1_1 : List Int) : Option (Bool) := ((spec_l8Parse.f k a0 a1_0 a1_1).bind fun t1 => (if t1.2 = true then (spec_NurseryOk.p16 k a0 a1_0 a1_1 t1.1 0) else (some false)))
def spec_l8Copy.f (a0_0 : Int) (a0_1 : List Int) : Option (Int × List Int) := (if 0 + a0_1.length ≤ 17592186044416 then (some (a0_0, (([] : List Int) ++ a0_1))) else none)
def spec_YoungAlloc.f (k : Nat) (a0 : List ByteArray) (a1_0 : Int) (a1_1 : List Int) (a2 : Int) : Option (Int × List Int × Int × Int) := ((spec_NurseryOk.f k a0 a1_0 a1_1).bind fun t1 => (if t1 = true then ((spec_l1In.f a2 0 (wrap64 ((a0.length : Int) - 1))).bind fun t2 => (if t2 = true then (if 0 ≤ a2 then (if a2 < (a0.length : Int) then (if (wrap64 ((wrap64 ((a1_1.length : Int) + 1)) + ((rdOf ByteArray.empty a0 a2).size : Int))) > a1_0 then (some (0, ([] : List Int), 0, 3)) else ((spec_l8Copy.f a1_0 a1_1).bind fun t3 => (if t3.2.length + 1 ≤ 17592186044416 then (if 0 ≤ a2 then (if a2 < (a0.length : Int) then (if 0 ≤ ((rdOf ByteArray.empty a0 a2).size : Int) then (if (t3.2 ++ ([(wrap64 (4 * a2))] : List Int)).length + (List.replicate ((rdOf ByteArray.empty a0 a2).size : Int).toNat (0 : Int)).length ≤ 17592186044416 then (some (t3.1, ((t3.2 ++ ([(wrap64 (4 * a2))] : List Int)) ++ (List.replicate ((rdOf ByteArray.empty a0 a2).size : Int).toNat (0 : Int))), (wrap64 ((wrap64 (2 * (a1_1.length : Int))) + 1)), 0)) else none) else none) else none) else none) else none))) else none) else none) else (some (0, ([] : List Int), 0, 2)))) else (some (0, ([] : List Int), 0, 1))))
def spec_Starts.f (k : Nat) (a0 : List ByteArray) (a1_0 : Int) (a1_1 : List Int) : Option (List Int) := ((spec_NurseryOk.f k a0 a1_0 a1_1).bind fun t1 => (if t1 = true then ((spec_l8Parse.f k a0 a1_0 a1_1).bind fun t2 => (some t2.1)) else (some ([] : List Int))))
def spec_l8Obj.f (a0 : List ByteArray) (a1_0 : Int) (a1_1 : List Int) (a2 : Int) : Option (Int × List Int) := (if 0 ≤ a2 then (if a2 < (a1_1.length : Int) then (if 0 ≤ (wrap64 (Int.tdiv (rd a1_1 a2) 4)) then (if (wrap64 (Int.tdiv (rd a1_1 a2) 4)) < (a0.length : Int) then (if 0 ≤ (wrap64 ((wrap64 (a2 + 1)) + ((rdOf ByteArray.empty a0 (wrap64 (Int.tdiv (rd a1_1 a2) 4))).size : Int))) then (if (wrap64 ((wrap64 (a2 + 1)) + ((rdOf ByteArray.empty a0 (wrap64 (Int.tdiv (rd a1_1 a2) 4))).size : Int))) ≤ (a1_1.length : Int) then (if 0 ≤ (wrap64 (a2 + 1)) then (if (wrap64 (a2 + 1)) ≤ (wrap64 ((wrap64 (a2 + 1)) + ((rdOf ByteArray.empty a0 (wrap64 (Int.tdiv (rd a1_1 a2) 4))).size : Int))) then (if 0 + ((a1_1.take (wrap64 ((wrap64 (a2 + 1)) + ((rdOf ByteArray.empty a0 (wrap64 (Int.tdiv (rd a1_1 a2) 4))).size : Int))).toNat).drop (wrap64 (a2 + 1)).toNat).length ≤ 17592186044416 then (some ((wrap64 (Int.tdiv (rd a1_1 a2) 4)), (([] : List Int) ++ ((a1_1.take (wrap64 ((wrap64 (a2 + 1)) + ((rdOf ByteArray.empty a0 (wrap64 (Int.tdiv (rd a1_1 a2) 4))).size : Int))).toNat).drop (wrap64 (a2 + 1)).toNat)))) else none) else none) else none) else none) else none) else none) else none) else none) else none)
def spec_YoungObject.f (k : Nat) (a0 : List ByteArray) (a1_0 : Int) (a1_1 : List Int) (a2 : Int) : Option (Int × List Int × Bool) := ((spec_RefKind.f a2).bind fun t1 => (if t1 = 2 then ((spec_Starts.f k a0 a1_0 a1_1).bind fun t2 => ((spec_l7Place.f k t2 (wrap64 (Int.tdiv a2 2))).bind fun t3 => (if t3 < 0 then (some (0, ([] : List Int), false)) else ((spec_l8Obj.f a0 a1_0 a1_1 (wrap64 (Int.tdiv a2 2))).bind fun t4 => (some (t4.1, t4.2, true)))))) else (some (0, ([] : List Int), false))))
def spec_YoungSet.p7 : Nat → Int → Int → Int → Int → List Int → Int → Bool → Option (Int × List Int × Bool)
 | 0, _, _, _, _, _, _, _ => none
 | k + 1, x2, x3, x4, x6_0, x6_1, x10_0, x50 => (if x50 = true then (some (0, ([] : List Int), false)) else ((spec_l8Copy.f x6_0 x6_1).bind fun t5 => (if 0 ≤ (wrap64 ((wrap64 ((wrap64 (Int.tdiv x2 2)) + 1)) + x3)) then (if (wrap64 ((wrap64 ((wrap64 (Int.tdiv x2 2)) + 1)) + x3)) < (t5.2.length : Int) then (some (t5.1, (t5.2.set (wrap64 ((wrap64 ((wrap64 (Int.tdiv x2 2)) + 1)) + x3)).toNat x4), true)) else none) else none)))
def spec_YoungSet.f (k : Nat) (a0 : List ByteArray) (a1_0 : Int) (a1_1 : List Int) (a2 : Int) (a3 : Int) (a4 : Int) : Option (Int × List Int × Bool) := ((spec_YoungObject.f k a0 a1_0 a1_1 a2).bind fun t1 => (if t1.2.2 = true then ((spec_l1In.f a3 0 (wrap64 ((t1.2.1.length : Int) - 1))).bind fun t2 => (if t2 = true then (if 0 ≤ t1.1 then (if t1.1 < (a0.length : Int) then (if 0 ≤ a3 then (if a3 < ((rdOf ByteArray.empty a0 t1.1).size : Int) then (if (byteAt (rdOf ByteArray.empty a0 t1.1) a3) = 114 then ((spec_Starts.f k a0 a1_0 a1_1).bind fun t3 => ((spec_l8Ref.f k t3 a4).bind fun t4 => (spec_YoungSet.p7 k a2 a3 a4 a1_0 a1_1 0 (!t4)))) else (spec_YoungSet.p7 k a2 a3 a4 a1_0 a1_1 0 false)) else none) else none) else none) else none) else (spec_YoungSet.p7 k a2 a3 a4 a1_0 a1_1 0 true))) else (spec_YoungSet.p7 k a2 a3 a4 a1_0 a1_1 0 true)))
mutual
def spec_l1Rd_nursery.p10 : Nat → List Int → Int → List ByteArray → Int → Int → List Int → List Int → Int → Option (List Int × Int × Int × List Int)
 | 0, _, _, _, _, _, _, _, _ => none
 | k + 1, h0_0, h0_1, x1, x4_0, x5_0, x5_1, x6, x7 => (if x7 > 0 then ((spec_l1Rd_below.f h0_0 h0_1 (x1.length : Int)).bind fun t4 => ((spec_YoungAlloc.f k x1 x5_0 x5_1 t4.2.2).bind fun t5 => (if t5.2.2.2 = 0 then (if x6.length + 1 ≤ 17592186044416 then (spec_l1Rd_nursery.p29 k t4.1 t4.2.1 x1 x4_0 t5.1 t5.2.1 (x6 ++ ([t5.2.2.1] : List Int)) x7 t5.1) else none) else (spec_l1Rd_nursery.p29 k t4.1 t4.2.1 x1 x4_0 x5_0 x5_1 x6 x7 t5.1)))) else (some (h0_0, h0_1, x5_0, x5_1)))
def spec_l1Rd_nursery.p29 : Nat → List Int → Int → List ByteArray → Int → Int → List Int → List Int → Int → Int → Option (List Int × Int × Int × List Int)
 | 0, _, _, _, _, _, _, _, _, _ => none
 | k + 1, h0_0, h0_1, x1, x4_0, x5_0, x5_1, x6, x7, x8_0 => ((spec_l1Rd_below.f h0_0 h0_1 (x6.length : Int)).bind fun t8 => (if 0 ≤ t8.2.2 then (if t8.2.2 < (x6.length : Int) then ((spec_l1Rd_below.f t8.1 t8.2.1 (x6.length : Int)).bind fun t9 => (if 0 ≤ t9.2.2 then (if t9.2.2 < (x6.length : Int) then ((spec_l1Rd_below.f t9.1 t9.2.1 3).bind fun t10 => ((spec_YoungSet.f k x1 x5_0 x5_1 (rd x6 t8.2.2) t10.2.2 (rd x6 t9.2.2)).bind fun t11 => (if t11.2.2 = true then (spec_l1Rd_nursery.p41 k t10.1 t10.2.1 x1 x4_0 t11.1 t11.2.1 x6 x7) else (spec_l1Rd_nursery.p41 k t10.1 t10.2.1 x1 x4_0 x5_0 x5_1 x6 x7)))) else none) else none)) else none) else none))
def spec_l1Rd_nursery.p41 : Nat → List Int → Int → List ByteArray → Int → Int → List Int → List Int → Int → Option (List Int × Int × Int × List Int)
 | 0, _, _, _, _, _, _, _, _ => none
 | k + 1, h0_0, h0_1, x1, x4_0, x5_0, x5_1, x6, x7 => (if (x5_1.length : Int) > 0 then ((spec_l1Rd_once.f h0_0 h0_1 4).bind fun t7 => (spec_l1Rd_nursery.p43 k t7.1 t7.2.1 x1 x4_0 x5_0 x5_1 x6 x7 t7.2.2)) else (spec_l1Rd_nursery.p43 k h0_0 h0_1 x1 x4_0 x5_0 x5_1 x6 x7 false))
def spec_l1Rd_nursery.p43 : Nat → List Int → Int → List ByteArray → Int → Int → List Int → List Int → Int → Bool → Option (List Int × Int × Int × List Int)
 | 0, _, _, _, _, _, _, _, _, _ => none
 | k + 1, h0_0, h0_1, x1, x4_0, x5_0, x5_1, x6, x7, x80 => (if x80 = true then (if 0 < (x5_1.length : Int) then ((spec_l1Rd_below.f h0_0 h0_1 4).bind fun t6 => (if 0 < (x5_1.length : Int) then (spec_l1Rd_nursery.p10 k t6.1 t6.2.1 x1 x4_0 x5_0 (x5_1.set 0 (wrap64 ((wrap64 ((wrap64 (Int.tdiv (rd x5_1 0) 4)) * 4)) + t6.2.2))) x6 (wrap64 (x7 - 1))) else none)) else none) else (spec_l1Rd_nursery.p10 k h0_0 h0_1 x1 x4_0 x5_0 x5_1 x6 (wrap64 (x7 - 1))))
end
def spec_l1Rd_nursery.f (k : Nat) (a0_0 : List Int) (a0_1 : Int) (a1 : List ByteArray) : Option (List Int × Int × Int × List Int) := ((spec_l1Rd_below.f a0_0 a0_1 60).bind fun t1 => ((spec_l1Rd_below.f t1.1 t1.2.1 60).bind fun t2 => ((spec_l1Rd_size.f t2.1 t2.2.1 4 14).bind fun t3 => (spec_l1Rd_nursery.p10 k t3.1 t3.2.1 a1 0 (wrap64 (6 + t1.2.2)) ([] : List Int) ([0, (wrap64 (2 * (wrap64 (1 + t2.2.2))))] : List Int) t3.2.2))))
def spec_l1Rd_word.p8 : Nat → List Int → Int → Int → Int → Option (List Int × Int × Int)
 | 0, _, _, _, _ => none
 | k + 1, h0_0, h0_1, x3, x4 => (if x4 < 8 then ((spec_l1Rd_next.f h0_0 h0_1).bind fun t1 => (spec_l1Rd_word.p8 k t1.1 t1.2.1 (orA .u64 (shlA .u64 x3 8) (IntKind.wrap .u64 t1.2.2)) (wrap64 (x4 + 1)))) else (some (h0_0, h0_1, x3)))
def spec_l1Rd_word.f (k : Nat) (a0_0 : List Int) (a0_1 : Int) : Option (List Int × Int × Int) := (spec_l1Rd_word.p8 k a0_0 a0_1 0 0)
def spec_l1Rd_near.f (k : Nat) (a0_0 : List Int) (a0_1 : Int) (a1 : Int) (a2 : Int) : Option (List Int × Int × Int) := ((spec_l1Rd_below.f a0_0 a0_1 8).bind fun t1 => (if t1.2.2 = 0 then (some (t1.1, t1.2.1, a1)) else (if t1.2.2 = 1 then (some (t1.1, t1.2.1, a2)) else (if a2 < a1 then (some (t1.1, t1.2.1, a1)) else ((spec_l1Rd_word.f k t1.1 t1.2.1).bind fun t2 => (if (IntKind.wrap .u64 (wrap64 ((wrap64 (a2 - a1)) + 1))) = 0 then none else (some (t2.1, t2.2.1, (wrap64 (a1 + (wrap64 (Int.tmod (shrA .u64 t2.2.2 1) (IntKind.wrap .u64 (wrap64 ((wrap64 (a2 - a1)) + 1)))))))))))))))
def spec_l1Rd_off.f (k : Nat) (a0_0 : List Int) (a0_1 : Int) (a1 : Int) (a2 : Int) : Option (List Int × Int × Int) := ((spec_l1Rd_once.f a0_0 a0_1 24).bind fun t1 => (if t1.2.2 = true then ((spec_l1Rd_below.f t1.1 t1.2.1 4).bind fun t2 => (if 0 ≤ t2.2.2 then (if t2.2.2 < 4 then (some (t2.1, t2.2.1, (rd ([(wrap64 (a1 - 1)), (wrap64 (a2 + 1)), (-9223372036854775808), 9223372036854775807] : List Int) t2.2.2))) else none) else none)) else ((spec_l1Rd_near.f k t1.1 t1.2.1 a1 a2).bind fun t3 => (some (t3.1, t3.2.1, t3.2.2)))))
def spec_l1Rd_ref.f (k : Nat) (a0_0 : List Int) (a0_1 : Int) : Option (List Int × Int × Int) := ((spec_l1Rd_below.f a0_0 a0_1 12).bind fun t1 => (if t1.2.2 = 0 then ((spec_l1Rd_off.f k t1.1 t1.2.1 0 254).bind fun t2 => (some (t2.1, t2.2.1, t2.2.2))) else (if t1.2.2 = 1 then ((spec_l1Rd_off.f k t1.1 t1.2.1 0 799).bind fun t3 => (some (t3.1, t3.2.1, t3.2.2))) else (if t1.2.2 = 2 then (some (t1.1, t1.2.1, 0)) else (if t1.2.2 = 3 then (some (t1.1, t1.2.1, 0)) else (if t1.2.2 = 4 then ((spec_l1Rd_below.f t1.1 t1.2.1 20).bind fun t4 => (some (t4.1, t4.2.1, (wrap64 (2 * (wrap64 (1 + t4.2.2))))))) else (if t1.2.2 = 5 then ((spec_l1Rd_below.f t1.1 t1.2.1 20).bind fun t5 => (some (t5.1, t5.2.1, (wrap64 (2 * (wrap64 (1 + t5.2.2))))))) else (if t1.2.2 = 6 then ((spec_l1Rd_below.f t1.1 t1.2.1 20).bind fun t6 => (some (t6.1, t6.2.1, (wrap64 (2 * (wrap64 (1 + t6.2.2))))))) else ((spec_l1Rd_below.f t1.1 t1.2.1 20).bind fun t7 => (some (t7.1, t7.2.1, (wrap64 ((wrap64 (2 * t7.2.2)) + 1)))))))))))))
def spec_l1Rd_youngRef.f (k : Nat) (a0_0 : List Int) (a0_1 : Int) (a1 : List ByteArray) (a2_0 : Int) (a2_1 : List Int) : Option (List Int × Int × List Int × Int) := ((spec_Starts.f k a1 a2_0 a2_1).bind fun t1 => (if (t1.length : Int) = 0 then ((spec_l1Rd_ref.f k a0_0 a0_1).bind fun t2 => (some (t2.1, t2.2.1, a2_1, t2.2.2))) else ((spec_l1Rd_once.f a0_0 a0_1 8).bind fun t3 => (if t3.2.2 = true then ((spec_l1Rd_ref.f k t3.1 t3.2.1).bind fun t4 => (some (t4.1, t4.2.1, a2_1, t4.2.2))) else ((spec_l1Rd_below.f t3.1 t3.2.1 (t1.length : Int)).bind fun t5 => (if 0 ≤ t5.2.2 then (if t5.2.2 < (t1.length : Int) then (some (t5.1, t5.2.1, a2_1, (wrap64 ((wrap64 (2 * (rd t1 t5.2.2))) + 1)))) else none) else none))))))
def spec_l1Rd_hurtNursery.f (k : Nat) (a0_0 : List Int) (a0_1 : Int) (a1_0 : Int) (a1_1 : List Int) : Option (List Int × Int × Int × List Int) := ((spec_l1Rd_below.f a0_0 a0_1 24).bind fun t1 => (if t1.2.2 = 0 then ((spec_l1Rd_off.f k t1.1 t1.2.1 2 400).bind fun t2 => (some (t2.1, t2.2.1, t2.2.2, a1_1))) else (if t1.2.2 = 1 then ((spec_l1Rd_below.f t1.1 t1.2.1 2).bind fun t3 => (some (t3.1, t3.2.1, (wrap64 ((a1_1.length : Int) - t3.2.2)), a1_1))) else (if t1.2.2 = 2 then (if (a1_1.length : Int) > 0 then ((spec_l1Rd_below.f t1.1 t1.2.1 (a1_1.length : Int)).bind fun t4 => ((spec_l1Rd_off.f k t4.1 t4.2.1 0 12).bind fun t5 => (if 0 ≤ t4.2.2 then (if t4.2.2 < (a1_1.length : Int) then (some (t5.1, t5.2.1, a1_0, (a1_1.set t4.2.2.toNat t5.2.2))) else none) else none))) else (some (t1.1, t1.2.1, a1_0, a1_1))) else (if t1.2.2 = 3 then ((spec_l1Rd_off.f k t1.1 t1.2.1 0 8).bind fun t6 => (if a1_1.length + 1 ≤ 17592186044416 then (some (t6.1, t6.2.1, a1_0, (a1_1 ++ ([t6.2.2] : List Int)))) else none)) else (some (t1.1, t1.2.1, a1_0, a1_1)))))))
mutual
def spec_DrawYoungClosure.p14 : Nat → Int → List Int → Int → List ByteArray → Int → List Int → List Int → Int → Option (List ByteArray × Int × List Int × List Int)
 | 0, _, _, _, _, _, _, _, _ => none
 | k + 1, x3_0, x5_0, x5_1, x6, x7_0, x7_1, x8, x9 => (if x9 > 0 then ((spec_l1Rd_youngRef.f k x5_0 x5_1 x6 x7_0 x7_1).bind fun t5 => ((spec_l1Rd_once.f t5.1 t5.2.1 4).bind fun t6 => (if t6.2.2 = true then (spec_DrawYoungClosure.p28 k x3_0 t6.1 t6.2.1 x6 x7_0 t5.2.2.1 x8 x9 t5.2.2.2 true) else ((spec_RefKind.f t5.2.2.2).bind fun t7 => (if t7 < 0 then ((spec_l1Rd_once.f t6.1 t6.2.1 4).bind fun t8 => (spec_DrawYoungClosure.p28 k x3_0 t8.1 t8.2.1 x6 x7_0 t5.2.2.1 x8 x9 t5.2.2.2 (!t8.2.2))) else (spec_DrawYoungClosure.p28 k x3_0 t6.1 t6.2.1 x6 x7_0 t5.2.2.1 x8 x9 t5.2.2.2 false)))))) else ((spec_l1Rd_hurtNursery.f k x5_0 x5_1 x7_0 x7_1).bind fun t9 => (some (x6, t9.2.2.1, t9.2.2.2, x8))))
def spec_DrawYoungClosure.p28 : Nat → Int → List Int → Int → List ByteArray → Int → List Int → List Int → Int → Int → Bool → Option (List ByteArray × Int × List Int × List Int)
 | 0, _, _, _, _, _, _, _, _, _, _ => none
 | k + 1, x3_0, x5_0, x5_1, x6, x7_0, x7_1, x8, x9, x10, x40 => (if x40 = true then ((spec_l1Rd_below.f x5_0 x5_1 20).bind fun t10 => (if x8.length + 1 ≤ 17592186044416 then (spec_DrawYoungClosure.p14 k x3_0 t10.1 t10.2.1 x6 x7_0 x7_1 (x8 ++ ([(wrap64 (2 * t10.2.2))] : List Int)) (wrap64 (x9 - 1))) else none)) else (if x8.length + 1 ≤ 17592186044416 then (spec_DrawYoungClosure.p14 k x3_0 x5_0 x5_1 x6 x7_0 x7_1 (x8 ++ ([x10] : List Int)) (wrap64 (x9 - 1))) else none))
end
def spec_DrawYoungClosure.f (k : Nat) (a0 : List Int) : Option (List ByteArray × Int × List Int × List Int) := ((spec_l1Open.f a0).bind fun t1 => ((spec_l1Rd_types.f k t1.1 t1.2).bind fun t2 => ((spec_l1Rd_nursery.f k t2.1 t2.2.1 t2.2.2).bind fun t3 => ((spec_l1Rd_below.f t3.1 t3.2.1 5).bind fun t4 => (spec_DrawYoungClosure.p14 k 0 t4.1 t4.2.1 t2.2.2 t3.2.2.1 t3.2.2.2 ([] : List Int) t4.2.2)))))
def spec_DrawMinor.f (k : Nat) (a0 : List Int) : Option (List ByteArray × Int × List Int × List Int) := ((spec_DrawYoungClosure.f k a0).bind fun t1 => (some (t1.1, t1.2.1, t1.2.2.1, t1.2.2.2)))
def impl_size_string.f (a0 : List ByteArray) : Option (Int) := (some (a0.length : Int))
def impl_within.f (a0 : Int) (a1 : Int) (a2 : Int) : Option (Bool) := (if a0 ≥ a1 then (some (decide (a0 ≤ a2))) else (some false))
def strings_Trim.f (a0 a1 : ByteArray) : Option ByteArray :=
  if a0.size ≤ 9223372036854775807 then (if a1.size ≤ 1000 then (if a1.data.toList.all (fun b => decide (b.toNat < 128)) = true then some ⟨(Lib.trimS a0.data.toList a1.data.toList).toArray⟩ else none) else none) else none

def impl_isType.f (a0 : ByteArray) : Option (Bool) := ((impl_within.f (a0.size : Int) 1 23).bind fun t1 => (if t1 = true then ((strings_Trim.f a0 (⟨#[105, 114]⟩ : ByteArray)).bind fun t2 => (some (decide (t2.toList = (⟨#[]⟩ : ByteArray).toList)))) else (some false)))
def impl_TypesOk_1.f (a0 : ByteArray) : Option (Bool) := ((impl_isType.f a0).bind fun t1 => (some (!t1)))
def slices_IndexFunc_string_at_impl_TypesOk_1.p6 : Nat → List ByteArray → Int → Int → Option (Int)
 | 0, _, _, _ => none
 | k + 1, x0, x7, x8 => (if x8 < x7 then (if 0 ≤ x8 then (if x8 < (x0.length : Int) then ((impl_TypesOk_1.f (rdOf ByteArray.empty x0 x8)).bind fun t1 => (if t1 = true then (some x8) else (slices_IndexFunc_string_at_impl_TypesOk_1.p6 k x0 x7 (wrap64 (x8 + 1))))) else none) else none) else (some (-1)))
def slices_IndexFunc_string_at_impl_TypesOk_1.f (k : Nat) (a0 : List ByteArray) : Option (Int) := (slices_IndexFunc_string_at_impl_TypesOk_1.p6 k a0 (a0.length : Int) 0)
def slices_ContainsFunc_string_at_impl_TypesOk_1.f (k : Nat) (a0 : List ByteArray) : Option (Bool) := ((slices_IndexFunc_string_at_impl_TypesOk_1.f k a0).bind fun t1 => (some (decide (t1 ≥ 0))))
def impl_TypesOk.f (k : Nat) (a0 : List ByteArray) : Option (Bool) := ((impl_size_string.f a0).bind fun t1 => ((impl_within.f t1 1 12).bind fun t2 => (if t2 = true then ((slices_ContainsFunc_string_at_impl_TypesOk_1.f k a0).bind fun t3 => (some (!t3))) else (some false))))
def impl_size_int64.f (a0 : List Int) : Option (Int) := (some (a0.length : Int))
def impl_starts.p8 : Nat → List ByteArray → Int → List Int → List Int → Int → Option (List Int × Bool)
 | 0, _, _, _, _, _ => none
 | k + 1, x0, x3_0, x3_1, x6, x7 => ((impl_size_int64.f x3_1).bind fun t1 => (if x7 < t1 then (if 0 ≤ x7 then (if x7 < (x3_1.length : Int) then ((impl_size_string.f x0).bind fun t2 => ((impl_within.f (rd x3_1 x7) 0 (wrap64 ((wrap64 (4 * t2)) - 1))).bind fun t3 => (if t3 = true then (if x6.length + 1 ≤ 17592186044416 then (if 0 ≤ (wrap64 (Int.tdiv (rd x3_1 x7) 4)) then (if (wrap64 (Int.tdiv (rd x3_1 x7) 4)) < (x0.length : Int) then ((impl_size_int64.f x3_1).bind fun t4 => (if (wrap64 (x7 + (wrap64 (1 + ((rdOf ByteArray.empty x0 (wrap64 (Int.tdiv (rd x3_1 x7) 4))).size : Int))))) > t4 then (some (([] : List Int), false)) else (impl_starts.p8 k x0 x3_0 x3_1 (x6 ++ ([x7] : List Int)) (wrap64 (x7 + (wrap64 (1 + ((rdOf ByteArray.empty x0 (wrap64 (Int.tdiv (rd x3_1 x7) 4))).size : Int)))))))) else none) else none) else none) else (some (([] : List Int), false))))) else none) else none) else (some (x6, true))))
def impl_starts.f (k : Nat) (a0 : List ByteArray) (a1_0 : Int) (a1_1 : List Int) : Option (List Int × Bool) := (impl_starts.p8 k a0 a1_0 a1_1 ([] : List Int) 0)
def slices_Clone_int64.f (a0 : List Int) : Option (List Int) := if a0.length ≤ 1099511627776 then some a0 else none

def impl_youngObject.f (a0 : List ByteArray) (a1_0 : Int) (a1_1 : List Int) (a2 : Int) : Option (Int × List Int) := (if 0 ≤ a2 then (if a2 < (a1_1.length : Int) then (if 0 ≤ (wrap64 (Int.tdiv (rd a1_1 a2) 4)) then (if (wrap64 (Int.tdiv (rd a1_1 a2) 4)) < (a0.length : Int) then (if 0 ≤ (wrap64 ((wrap64 (a2 + 1)) + ((rdOf ByteArray.empty a0 (wrap64 (Int.tdiv (rd a1_1 a2) 4))).size : Int))) then (if (wrap64 ((wrap64 (a2 + 1)) + ((rdOf ByteArray.empty a0 (wrap64 (Int.tdiv (rd a1_1 a2) 4))).size : Int))) ≤ (a1_1.length : Int) then (if 0 ≤ (wrap64 (a2 + 1)) then (if (wrap64 (a2 + 1)) ≤ (wrap64 ((wrap64 (a2 + 1)) + ((rdOf ByteArray.empty a0 (wrap64 (Int.tdiv (rd a1_1 a2) 4))).size : Int))) then ((slices_Clone_int64.f ((a1_1.take (wrap64 ((wrap64 (a2 + 1)) + ((rdOf ByteArray.empty a0 (wrap64 (Int.tdiv (rd a1_1 a2) 4))).size : Int))).toNat).drop (wrap64 (a2 + 1)).toNat)).bind fun t1 => (some ((wrap64 (Int.tdiv (rd a1_1 a2) 4)), t1))) else none) else none) else none) else none) else none) else none) else none) else none)
def impl_RefKind.f (a0 : Int) : Option (Int) := (if a0 = 0 then (some 0) else ((impl_within.f a0 2 254).bind fun t1 => (if t1 = true then (if (Int.tmod a0 2) = 0 then (some 1) else ((impl_within.f a0 1 799).bind fun t2 => (if t2 = true then (if (Int.tmod a0 2) = 1 then (some 2) else (some (-1))) else (some (-1))))) else ((impl_within.f a0 1 799).bind fun t3 => (if t3 = true then (if (Int.tmod a0 2) = 1 then (some 2) else (some (-1))) else (some (-1)))))))
def impl_isOld.f (a0 : Int) : Option (Bool) := ((impl_RefKind.f a0).bind fun t1 => (some (decide (t1 = 1))))
def impl_isYoung.f (a0 : Int) : Option (Bool) := ((impl_RefKind.f a0).bind fun t1 => (some (decide (t1 = 2))))
def cmp_isNaN_int64.f (a0 : Int) : Option (Bool) := (some (!decide (a0 = a0)))
def cmp_Less_int64.f (a0 : Int) (a1 : Int) : Option (Bool) := ((cmp_isNaN_int64.f a0).bind fun t1 => (if t1 = true then ((cmp_isNaN_int64.f a1).bind fun t2 => (if t2 = true then (some (decide (a0 < a1))) else (some true))) else (some (decide (a0 < a1)))))
def slices_isNaN_int64.f (a0 : Int) : Option (Bool) := (some (!decide (a0 = a0)))
def slices_BinarySearch_int64.p8 : Nat → List Int → Int → Int → Int → Int → Option (Int × Bool)
 | 0, _, _, _, _, _ => none
 | k + 1, x0, x1, x6, x7, x8 => (if x7 < x8 then (if 0 ≤ (wrap64 (shrA .u64 (IntKind.wrap .u64 (wrap64 (x7 + x8))) 1)) then (if (wrap64 (shrA .u64 (IntKind.wrap .u64 (wrap64 (x7 + x8))) 1)) < (x0.length : Int) then ((cmp_Less_int64.f (rd x0 (wrap64 (shrA .u64 (IntKind.wrap .u64 (wrap64 (x7 + x8))) 1))) x1).bind fun t1 => (if t1 = true then (slices_BinarySearch_int64.p8 k x0 x1 x6 (wrap64 ((wrap64 (shrA .u64 (IntKind.wrap .u64 (wrap64 (x7 + x8))) 1)) + 1)) x8) else (slices_BinarySearch_int64.p8 k x0 x1 x6 x7 (wrap64 (shrA .u64 (IntKind.wrap .u64 (wrap64 (x7 + x8))) 1))))) else none) else none) else (if x7 < x6 then (if 0 ≤ x7 then (if x7 < (x0.length : Int) then (if (rd x0 x7) = x1 then (some (x7, true)) else (if 0 ≤ x7 then (if x7 < (x0.length : Int) then ((slices_isNaN_int64.f (rd x0 x7)).bind fun t2 => (if t2 = true then ((slices_isNaN_int64.f x1).bind fun t3 => (some (x7, t3))) else (some (x7, false)))) else none) else none)) else none) else none) else (some (x7, false))))
def slices_BinarySearch_int64.f (k : Nat) (a0 : List Int) (a1 : Int) : Option (Int × Bool) := (slices_BinarySearch_int64.p8 k a0 a1 (a0.length : Int) 0 (a0.length : Int))
def impl_isHead.f (k : Nat) (a0 : Int) (a1 : List Int) : Option (Bool) := ((impl_isYoung.f a0).bind fun t1 => (if t1 = true then ((slices_BinarySearch_int64.f k a1 (wrap64 (Int.tdiv a0 2))).bind fun t2 => (some t2.2)) else (some false)))
def impl_isRef.f (k : Nat) (a0 : Int) (a1 : List Int) : Option (Bool) := (if a0 = 0 then (some true) else ((impl_isOld.f a0).bind fun t1 => (if t1 = true then (some true) else ((impl_isHead.f k a0 a1).bind fun t2 => (some t2)))))
def impl_heads_1.f (k : Nat) (a0 : Int) (a1 : List Int) : Option (Bool) := ((impl_isRef.f k a0 a1).bind fun t1 => (some t1))
def impl_isObject_at_impl_heads_1.p14 : Nat → List ByteArray → List Int → Int → List Int → List Int → Int → Int → Option (Bool)
 | 0, _, _, _, _, _, _, _ => none
 | k + 1, x0, x2_0, x4_0, x4_1, x29, x30, x31 => (if x31 < x30 then (if 0 ≤ x31 then (if x31 < (x29.length : Int) then (if 0 ≤ x4_0 then (if x4_0 < (x0.length : Int) then (if 0 ≤ x31 then (if x31 < ((rdOf ByteArray.empty x0 x4_0).size : Int) then (if (byteAt (rdOf ByteArray.empty x0 x4_0) x31) = 114 then ((impl_heads_1.f k (rd x29 x31) x2_0).bind fun t3 => (if t3 = true then (impl_isObject_at_impl_heads_1.p14 k x0 x2_0 x4_0 x4_1 x29 x30 (wrap64 (x31 + 1))) else (some false))) else (impl_isObject_at_impl_heads_1.p14 k x0 x2_0 x4_0 x4_1 x29 x30 (wrap64 (x31 + 1)))) else none) else none) else none) else none) else none) else none) else (some true))
def impl_isObject_at_impl_heads_1.f (k : Nat) (a0 : List ByteArray) (a1_0 : Int) (a1_1 : List Int) (a2_0 : List Int) : Option (Bool) := ((impl_size_string.f a0).bind fun t1 => ((impl_within.f a1_0 0 (wrap64 (t1 - 1))).bind fun t2 => (if t2 = true then (if 0 ≤ a1_0 then (if a1_0 < (a0.length : Int) then (if (a1_1.length : Int) = ((rdOf ByteArray.empty a0 a1_0).size : Int) then (impl_isObject_at_impl_heads_1.p14 k a0 a2_0 a1_0 a1_1 a1_1 (a1_1.length : Int) 0) else (some false)) else none) else none) else (some false))))
def impl_heads.p24 : Nat → List ByteArray → Int → List Int → List Int → Int → Int → Option (List Int × Bool)
 | 0, _, _, _, _, _, _ => none
 | k + 1, x0, x3_0, x3_1, x6_0, x36, x37 => (if x37 < x36 then (if 0 ≤ x37 then (if x37 < (x6_0.length : Int) then ((impl_youngObject.f x0 x3_0 x3_1 (rd x6_0 x37)).bind fun t5 => ((impl_isObject_at_impl_heads_1.f k x0 t5.1 t5.2 x6_0).bind fun t6 => (if t6 = true then (impl_heads.p24 k x0 x3_0 x3_1 x6_0 x36 (wrap64 (x37 + 1))) else (some (([] : List Int), false))))) else none) else none) else (some (x6_0, true)))
def impl_heads.f (k : Nat) (a0 : List ByteArray) (a1_0 : Int) (a1_1 : List Int) : Option (List Int × Bool) := ((impl_TypesOk.f k a0).bind fun t1 => (if t1 = true then ((impl_within.f a1_0 2 400).bind fun t2 => (if t2 = true then ((impl_size_int64.f a1_1).bind fun t3 => (if t3 > a1_0 then (some (([] : List Int), false)) else ((impl_starts.f k a0 a1_0 a1_1).bind fun t4 => (if t4.2 = true then (impl_heads.p24 k a0 a1_0 a1_1 t4.1 (t4.1.length : Int) 0) else (some (([] : List Int), false)))))) else (some (([] : List Int), false)))) else (some (([] : List Int), false))))
def impl_YoungClosure_1.f (k : Nat) (a0 : Int) (a1 : List Int) : Option (Bool) := ((impl_isRef.f k a0 a1).bind fun t1 => (some (!t1)))
def slices_IndexFunc_int64_at_impl_YoungClosure_1.p6 : Nat → List Int → List Int → Int → Int → Option (Int)
 | 0, _, _, _, _ => none
 | k + 1, x0, x1_0, x7, x8 => (if x8 < x7 then (if 0 ≤ x8 then (if x8 < (x0.length : Int) then ((impl_YoungClosure_1.f k (rd x0 x8) x1_0).bind fun t1 => (if t1 = true then (some x8) else (slices_IndexFunc_int64_at_impl_YoungClosure_1.p6 k x0 x1_0 x7 (wrap64 (x8 + 1))))) else none) else none) else (some (-1)))
def slices_IndexFunc_int64_at_impl_YoungClosure_1.f (k : Nat) (a0 : List Int) (a1_0 : List Int) : Option (Int) := (slices_IndexFunc_int64_at_impl_YoungClosure_1.p6 k a0 a1_0 (a0.length : Int) 0)
def slices_ContainsFunc_int64_at_impl_YoungClosure_1.f (k : Nat) (a0 : List Int) (a1_0 : List Int) : Option (Bool) := ((slices_IndexFunc_int64_at_impl_YoungClosure_1.f k a0 a1_0).bind fun t1 => (some (decide (t1 ≥ 0))))
def impl_youngClosure_1.f (a0 : Int) (a1_0 : (Int → Option Bool)) (a2_0 : List Int) : Option ((Int → Option Bool) × List Int) := ((impl_isYoung.f a0).bind fun t1 => (if t1 = true then (if ((a1_0 a0).getD false) = true then (some (a1_0, a2_0)) else (if a2_0.length + 1 ≤ 17592186044416 then (some ((mput a1_0 a0 true), (a2_0 ++ ([a0] : List Int)))) else none)) else (some (a1_0, a2_0))))
mutual
def impl_youngClosure.p12 : Nat → List ByteArray → Int → List Int → List Int → (Int → Option Bool) → List Int → Int → Int → Option (List Int)
 | 0, _, _, _, _, _, _, _, _ => none
 | k + 1, x0, x4_0, x4_1, x7_0, x9_0_0, x19, x20, x21 => (if x21 < x20 then (if 0 ≤ x21 then (if x21 < (x19.length : Int) then ((impl_youngClosure_1.f (rd x19 x21) x9_0_0 x7_0).bind fun t1 => (impl_youngClosure.p12 k x0 x4_0 x4_1 t1.2 t1.1 x19 x20 (wrap64 (x21 + 1)))) else none) else none) else (impl_youngClosure.p29 k x0 x4_0 x4_1 x7_0 x9_0_0 0))
def impl_youngClosure.p29 : Nat → List ByteArray → Int → List Int → List Int → (Int → Option Bool) → Int → Option (List Int)
 | 0, _, _, _, _, _, _ => none
 | k + 1, x0, x4_0, x4_1, x7_0, x9_0_0, x12 => (if x12 < (x7_0.length : Int) then (if 0 ≤ x12 then (if x12 < (x7_0.length : Int) then ((impl_youngObject.f x0 x4_0 x4_1 (wrap64 (Int.tdiv (rd x7_0 x12) 2))).bind fun t2 => (impl_youngClosure.p43 k x0 x4_0 x4_1 x7_0 x9_0_0 x12 t2.1 t2.2 (t2.2.length : Int) 0)) else none) else none) else (some x7_0))
def impl_youngClosure.p43 : Nat → List ByteArray → Int → List Int → List Int → (Int → Option Bool) → Int → Int → List Int → Int → Int → Option (List Int)
 | 0, _, _, _, _, _, _, _, _, _, _ => none
 | k + 1, x0, x4_0, x4_1, x7_0, x9_0_0, x12, x13_0, x13_1, x45, x46 => (if x46 < x45 then (if 0 ≤ x46 then (if x46 < (x13_1.length : Int) then (if 0 ≤ x13_0 then (if x13_0 < (x0.length : Int) then (if 0 ≤ x46 then (if x46 < ((rdOf ByteArray.empty x0 x13_0).size : Int) then (if (byteAt (rdOf ByteArray.empty x0 x13_0) x46) = 114 then ((impl_youngClosure_1.f (rd x13_1 x46) x9_0_0 x7_0).bind fun t3 => (impl_youngClosure.p43 k x0 x4_0 x4_1 t3.2 t3.1 x12 x13_0 x13_1 x45 (wrap64 (x46 + 1)))) else (impl_youngClosure.p43 k x0 x4_0 x4_1 x7_0 x9_0_0 x12 x13_0 x13_1 x45 (wrap64 (x46 + 1)))) else none) else none) else none) else none) else none) else none) else (impl_youngClosure.p29 k x0 x4_0 x4_1 x7_0 x9_0_0 (wrap64 (x12 + 1))))
end
def impl_youngClosure.f (k : Nat) (a0 : List ByteArray) (a1_0 : Int) (a1_1 : List Int) (a2 : List Int) : Option (List Int) := (impl_youngClosure.p12 k a0 a1_0 a1_1 ([] : List Int) (fun (_ : Int) => (none : Option Bool)) a2 (a2.length : Int) 0)
def impl_YoungClosure.f (k : Nat) (a0 : List ByteArray) (a1_0 : Int) (a1_1 : List Int) (a2 : List Int) : Option (List Int × Bool) := ((impl_heads.f k a0 a1_0 a1_1).bind fun t1 => (if t1.2 = true then (if (a2.length : Int) > 400 then (some (([] : List Int), false)) else ((slices_ContainsFunc_int64_at_impl_YoungClosure_1.f k a2 t1.1).bind fun t2 => (if t2 = true then (some (([] : List Int), false)) else ((impl_youngClosure.f k a0 a1_0 a1_1 a2).bind fun t3 => (some (t3, true)))))) else (some (([] : List Int), false))))
def impl_YoungRef.f (a0 : Int) : Option (Int) := ((impl_within.f a0 0 399).bind fun t1 => (if t1 = true then (some (wrap64 ((wrap64 (2 * a0)) + 1))) else (some 0)))
def impl_Minor_1.f (a0 : Int) (a1_0 : (Int → Option Int)) : Option ((Int → Option Int) × Int) := ((impl_isYoung.f a0).bind fun t1 => (if t1 = true then (some (a1_0, ((a1_0 a0).getD 0))) else (some (a1_0, a0))))
mutual
def impl_Minor.p20 : Nat → List ByteArray → List Int → Int → List Int → Int → List Int → (Int → Option Int) → Int → Int → Int → Option (Int × List Int × List Int × Bool)
 | 0, _, _, _, _, _, _, _, _, _, _ => none
 | k + 1, x0, x2, x4_0, x4_1, x6_0, x9, x11_0, x12, x38, x39 => (if x39 < x38 then (if 0 ≤ x39 then (if x39 < (x9.length : Int) then ((impl_YoungRef.f x12).bind fun t2 => (if 0 ≤ (wrap64 (Int.tdiv (rd x9 x39) 2)) then (if (wrap64 (Int.tdiv (rd x9 x39) 2)) < (x4_1.length : Int) then (if 0 ≤ (wrap64 (Int.tdiv (rd x4_1 (wrap64 (Int.tdiv (rd x9 x39) 2))) 4)) then (if (wrap64 (Int.tdiv (rd x4_1 (wrap64 (Int.tdiv (rd x9 x39) 2))) 4)) < (x0.length : Int) then (impl_Minor.p20 k x0 x2 x4_0 x4_1 x6_0 x9 (mput x11_0 (rd x9 x39) t2) (wrap64 (x12 + (wrap64 (1 + ((rdOf ByteArray.empty x0 (wrap64 (Int.tdiv (rd x4_1 (wrap64 (Int.tdiv (rd x9 x39) 2))) 4))).size : Int))))) x38 (wrap64 (x39 + 1))) else none) else none) else none) else none)) else none) else none) else (impl_Minor.p43 k x0 x2 x4_0 x4_1 x6_0 x11_0 x4_0 ([] : List Int) x9 (x9.length : Int) 0))
def impl_Minor.p43 : Nat → List ByteArray → List Int → Int → List Int → Int → (Int → Option Int) → Int → List Int → List Int → Int → Int → Option (Int × List Int × List Int × Bool)
 | 0, _, _, _, _, _, _, _, _, _, _, _ => none
 | k + 1, x0, x2, x4_0, x4_1, x6_0, x15_0_0, x16_0, x16_1, x66, x67, x68 => (if x68 < x67 then (if 0 ≤ x68 then (if x68 < (x66.length : Int) then ((impl_youngObject.f x0 x4_0 x4_1 (wrap64 (Int.tdiv (rd x66 x68) 2))).bind fun t3 => (if 0 ≤ (wrap64 (Int.tdiv (rd x66 x68) 2)) then (if (wrap64 (Int.tdiv (rd x66 x68) 2)) < (x4_1.length : Int) then (if x16_1.length + 1 ≤ 17592186044416 then (impl_Minor.p63 k x0 x2 x4_0 x4_1 x6_0 x15_0_0 x16_0 (x16_1 ++ ([(wrap64 ((wrap64 (4 * t3.1)) + (if (wrap64 ((Int.tmod (rd x4_1 (wrap64 (Int.tdiv (rd x66 x68) 2))) 4) + 1)) < 3 then (wrap64 ((Int.tmod (rd x4_1 (wrap64 (Int.tdiv (rd x66 x68) 2))) 4) + 1)) else 3)))] : List Int)) t3.1 t3.2 x66 x67 x68 (t3.2.length : Int) 0) else none) else none) else none)) else none) else none) else (impl_Minor.p89 k x6_0 x15_0_0 x16_0 x16_1 ([] : List Int) x2 (x2.length : Int) 0))
def impl_Minor.p63 : Nat → List ByteArray → List Int → Int → List Int → Int → (Int → Option Int) → Int → List Int → Int → List Int → List Int → Int → Int → Int → Int → Option (Int × List Int × List Int × Bool)
 | 0, _, _, _, _, _, _, _, _, _, _, _, _, _, _, _ => none
 | k + 1, x0, x2, x4_0, x4_1, x6_0, x15_0_0, x16_0, x16_1, x19_0, x19_1, x66, x67, x68, x98, x99 => (if x99 < x98 then (if 0 ≤ x99 then (if x99 < (x19_1.length : Int) then (if 0 ≤ x19_0 then (if x19_0 < (x0.length : Int) then (if 0 ≤ x99 then (if x99 < ((rdOf ByteArray.empty x0 x19_0).size : Int) then (if (byteAt (rdOf ByteArray.empty x0 x19_0) x99) = 114 then ((impl_Minor_1.f (rd x19_1 x99) x15_0_0).bind fun t4 => (if x16_1.length + 1 ≤ 17592186044416 then (impl_Minor.p63 k x0 x2 x4_0 x4_1 x6_0 t4.1 x16_0 (x16_1 ++ ([t4.2] : List Int)) x19_0 x19_1 x66 x67 x68 x98 (wrap64 (x99 + 1))) else none)) else (if x16_1.length + 1 ≤ 17592186044416 then (impl_Minor.p63 k x0 x2 x4_0 x4_1 x6_0 x15_0_0 x16_0 (x16_1 ++ ([(rd x19_1 x99)] : List Int)) x19_0 x19_1 x66 x67 x68 x98 (wrap64 (x99 + 1))) else none)) else none) else none) else none) else none) else none) else none) else (impl_Minor.p43 k x0 x2 x4_0 x4_1 x6_0 x15_0_0 x16_0 x16_1 x66 x67 (wrap64 (x68 + 1))))
def impl_Minor.p89 : Nat → Int → (Int → Option Int) → Int → List Int → List Int → List Int → Int → Int → Option (Int × List Int × List Int × Bool)
 | 0, _, _, _, _, _, _, _, _ => none
 | k + 1, x6_0, x15_0_0, x16_0, x16_1, x23, x124, x125, x126 => (if x126 < x125 then (if 0 ≤ x126 then (if x126 < (x124.length : Int) then ((impl_Minor_1.f (rd x124 x126) x15_0_0).bind fun t5 => (if x23.length + 1 ≤ 17592186044416 then (impl_Minor.p89 k x6_0 t5.1 x16_0 x16_1 (x23 ++ ([t5.2] : List Int)) x124 x125 (wrap64 (x126 + 1))) else none)) else none) else none) else (some (x16_0, x16_1, x23, true)))
end
def impl_Minor.f (k : Nat) (a0 : List ByteArray) (a1_0 : Int) (a1_1 : List Int) (a2 : List Int) : Option (Int × List Int × List Int × Bool) := ((impl_YoungClosure.f k a0 a1_0 a1_1 a2).bind fun t1 => (if t1.2 = true then (impl_Minor.p20 k a0 a2 a1_0 a1_1 0 t1.1 (fun (_ : Int) => (none : Option Int)) 0 (t1.1.length : Int) 0) else (some (0, ([] : List Int), ([] : List Int), false))))
def spec_l8Roots.p16 : Nat → List Int → List Int → Int → Option (Bool)
 | 0, _, _, _ => none
 | k + 1, x2, x7, x9 => (if x9 < (x2.length : Int) then (if 0 ≤ x9 then (if x9 < (x2.length : Int) then ((spec_l8Ref.f k x7 (rd x2 x9)).bind fun t3 => (if t3 = true then (spec_l8Roots.p16 k x2 x7 (wrap64 (x9 + 1))) else (some false))) else none) else none) else (some true))
def spec_l8Roots.f (k : Nat) (a0 : List ByteArray) (a1_0 : Int) (a1_1 : List Int) (a2 : List Int) : Option (Bool) := ((spec_NurseryOk.f k a0 a1_0 a1_1).bind fun t1 => (if t1 = true then (if (a2.length : Int) > 400 then (some false) else ((spec_l8Parse.f k a0 a1_0 a1_1).bind fun t2 => (spec_l8Roots.p16 k a2 t2.1 0))) else (some false)))
mutual
def spec_l8Closure.p8 : Nat → List ByteArray → List Int → Int → List Int → List Int → Int → Option (List Int)
 | 0, _, _, _, _, _, _ => none
 | k + 1, x0, x2, x4_0, x4_1, x7, x8 => (if x8 < (x2.length : Int) then (if 0 ≤ x8 then (if x8 < (x2.length : Int) then ((spec_RefKind.f (rd x2 x8)).bind fun t1 => (if t1 = 2 then (if 0 ≤ x8 then (if x8 < (x2.length : Int) then ((spec_l7Place.f k x7 (rd x2 x8)).bind fun t2 => (spec_l8Closure.p19 k x0 x2 x4_0 x4_1 x7 x8 (decide (t2 < 0)))) else none) else none) else (spec_l8Closure.p19 k x0 x2 x4_0 x4_1 x7 x8 false))) else none) else none) else (spec_l8Closure.p27 k x0 x4_0 x4_1 x7 0))
def spec_l8Closure.p19 : Nat → List ByteArray → List Int → Int → List Int → List Int → Int → Bool → Option (List Int)
 | 0, _, _, _, _, _, _, _ => none
 | k + 1, x0, x2, x4_0, x4_1, x7, x8, x33 => (if x33 = true then (if 0 ≤ x8 then (if x8 < (x2.length : Int) then (if x7.length + 1 ≤ 17592186044416 then (spec_l8Closure.p8 k x0 x2 x4_0 x4_1 (x7 ++ ([(rd x2 x8)] : List Int)) (wrap64 (x8 + 1))) else none) else none) else none) else (spec_l8Closure.p8 k x0 x2 x4_0 x4_1 x7 (wrap64 (x8 + 1))))
def spec_l8Closure.p27 : Nat → List ByteArray → Int → List Int → List Int → Int → Option (List Int)
 | 0, _, _, _, _, _ => none
 | k + 1, x0, x4_0, x4_1, x7, x9 => (if x9 < (x7.length : Int) then (if 0 ≤ x9 then (if x9 < (x7.length : Int) then ((spec_l8Obj.f x0 x4_0 x4_1 (wrap64 (Int.tdiv (rd x7 x9) 2))).bind fun t3 => (spec_l8Closure.p41 k x0 x4_0 x4_1 x7 x9 t3.1 t3.2 0)) else none) else none) else (some x7))
def spec_l8Closure.p41 : Nat → List ByteArray → Int → List Int → List Int → Int → Int → List Int → Int → Option (List Int)
 | 0, _, _, _, _, _, _, _, _ => none
 | k + 1, x0, x4_0, x4_1, x7, x9, x10_0, x10_1, x11 => (if x11 < (x10_1.length : Int) then (if 0 ≤ x10_0 then (if x10_0 < (x0.length : Int) then (if 0 ≤ x11 then (if x11 < ((rdOf ByteArray.empty x0 x10_0).size : Int) then (if (byteAt (rdOf ByteArray.empty x0 x10_0) x11) = 114 then (if 0 ≤ x11 then (if x11 < (x10_1.length : Int) then ((spec_RefKind.f (rd x10_1 x11)).bind fun t4 => (if t4 = 2 then (if 0 ≤ x11 then (if x11 < (x10_1.length : Int) then ((spec_l7Place.f k x7 (rd x10_1 x11)).bind fun t5 => (spec_l8Closure.p52 k x0 x4_0 x4_1 x7 x9 x10_0 x10_1 x11 (decide (t5 < 0)))) else none) else none) else (spec_l8Closure.p52 k x0 x4_0 x4_1 x7 x9 x10_0 x10_1 x11 false))) else none) else none) else (spec_l8Closure.p52 k x0 x4_0 x4_1 x7 x9 x10_0 x10_1 x11 false)) else none) else none) else none) else none) else (spec_l8Closure.p27 k x0 x4_0 x4_1 x7 (wrap64 (x9 + 1))))
def spec_l8Closure.p52 : Nat → List ByteArray → Int → List Int → List Int → Int → Int → List Int → Int → Bool → Option (List Int)
 | 0, _, _, _, _, _, _, _, _, _ => none
 | k + 1, x0, x4_0, x4_1, x7, x9, x10_0, x10_1, x11, x88 => (if x88 = true then (if 0 ≤ x11 then (if x11 < (x10_1.length : Int) then (if x7.length + 1 ≤ 17592186044416 then (spec_l8Closure.p41 k x0 x4_0 x4_1 (x7 ++ ([(rd x10_1 x11)] : List Int)) x9 x10_0 x10_1 (wrap64 (x11 + 1))) else none) else none) else none) else (spec_l8Closure.p41 k x0 x4_0 x4_1 x7 x9 x10_0 x10_1 (wrap64 (x11 + 1))))
end
def spec_l8Closure.f (k : Nat) (a0 : List ByteArray) (a1_0 : Int) (a1_1 : List Int) (a2 : List Int) : Option (List Int) := (spec_l8Closure.p8 k a0 a2 a1_0 a1_1 ([] : List Int) 0)
def spec_l4To.p6 : Nat → Int → List Int → List Int → Int → Option (Int)
 | 0, _, _, _, _ => none
 | k + 1, x0, x1, x2, x7 => (if x7 < (x1.length : Int) then (if 0 ≤ x7 then (if x7 < (x1.length : Int) then (if (rd x1 x7) = x0 then (if 0 ≤ x7 then (if x7 < (x2.length : Int) then (some (rd x2 x7)) else none) else none) else (spec_l4To.p6 k x0 x1 x2 (wrap64 (x7 + 1)))) else none) else none) else (some x0))
def spec_l4To.f (k : Nat) (a0 : Int) (a1 : List Int) (a2 : List Int) : Option (Int) := (spec_l4To.p6 k a0 a1 a2 0)
def spec_l4Forward.p8 : Nat → List ByteArray → List Int → List Int → Int → List Int → Int → Int → List Int → Int → Option (Int × List Int)
 | 0, _, _, _, _, _, _, _, _, _ => none
 | k + 1, x0, x2, x3, x5_0, x5_1, x8_0, x9_0, x9_1, x10 => (if x10 < (x5_1.length : Int) then (if 0 ≤ x10 then (if x10 < (x5_1.length : Int) then (if 0 ≤ x5_0 then (if x5_0 < (x0.length : Int) then (if 0 ≤ x10 then (if x10 < ((rdOf ByteArray.empty x0 x5_0).size : Int) then (if (byteAt (rdOf ByteArray.empty x0 x5_0) x10) = 114 then ((spec_l4To.f k (rd x5_1 x10) x2 x3).bind fun t1 => (if x9_1.length + 1 ≤ 17592186044416 then (spec_l4Forward.p8 k x0 x2 x3 x5_0 x5_1 x8_0 x9_0 (x9_1 ++ ([t1] : List Int)) (wrap64 (x10 + 1))) else none)) else (if x9_1.length + 1 ≤ 17592186044416 then (spec_l4Forward.p8 k x0 x2 x3 x5_0 x5_1 x8_0 x9_0 (x9_1 ++ ([(rd x5_1 x10)] : List Int)) (wrap64 (x10 + 1))) else none)) else none) else none) else none) else none) else none) else none) else (some (x9_0, x9_1)))
def spec_l4Forward.f (k : Nat) (a0 : List ByteArray) (a1_0 : Int) (a1_1 : List Int) (a2 : List Int) (a3 : List Int) : Option (Int × List Int) := (spec_l4Forward.p8 k a0 a2 a3 a1_0 a1_1 0 a1_0 ([] : List Int) 0)
mutual
def spec_l8Minor.p12 : Nat → List ByteArray → List Int → Int → List Int → Int → List Int → List Int → Int → Int → Option (Int × List Int × List Int)
 | 0, _, _, _, _, _, _, _, _, _ => none
 | k + 1, x0, x2, x4_0, x4_1, x6_0, x8, x9, x10, x11 => (if x11 < (x8.length : Int) then (if x9.length + 1 ≤ 17592186044416 then (if 0 ≤ x11 then (if x11 < (x8.length : Int) then ((spec_l8Obj.f x0 x4_0 x4_1 (wrap64 (Int.tdiv (rd x8 x11) 2))).bind fun t2 => (spec_l8Minor.p12 k x0 x2 x4_0 x4_1 x6_0 x8 (x9 ++ ([(wrap64 ((wrap64 (2 * x10)) + 1))] : List Int)) (wrap64 ((wrap64 (x10 + 1)) + (t2.2.length : Int))) (wrap64 (x11 + 1)))) else none) else none) else none) else (spec_l8Minor.p31 k x0 x2 x4_0 x4_1 x6_0 x8 x9 x4_0 ([] : List Int) 0))
def spec_l8Minor.p31 : Nat → List ByteArray → List Int → Int → List Int → Int → List Int → List Int → Int → List Int → Int → Option (Int × List Int × List Int)
 | 0, _, _, _, _, _, _, _, _, _, _ => none
 | k + 1, x0, x2, x4_0, x4_1, x6_0, x8, x9, x12_0, x12_1, x13 => (if x13 < (x8.length : Int) then (if 0 ≤ x13 then (if x13 < (x8.length : Int) then (if 0 ≤ (wrap64 (Int.tdiv (rd x8 x13) 2)) then (if (wrap64 (Int.tdiv (rd x8 x13) 2)) < (x4_1.length : Int) then (if 0 ≤ x13 then (if x13 < (x8.length : Int) then ((spec_l8Obj.f x0 x4_0 x4_1 (wrap64 (Int.tdiv (rd x8 x13) 2))).bind fun t3 => ((spec_l4Forward.f k x0 t3.1 t3.2 x8 x9).bind fun t4 => (if x12_1.length + 1 ≤ 17592186044416 then (if (x12_1 ++ ([(wrap64 ((wrap64 (4 * t4.1)) + (if 3 < (wrap64 ((Int.tmod (rd x4_1 (wrap64 (Int.tdiv (rd x8 x13) 2))) 4) + 1)) then 3 else (wrap64 ((Int.tmod (rd x4_1 (wrap64 (Int.tdiv (rd x8 x13) 2))) 4) + 1)))))] : List Int)).length + t4.2.length ≤ 17592186044416 then (spec_l8Minor.p31 k x0 x2 x4_0 x4_1 x6_0 x8 x9 x12_0 ((x12_1 ++ ([(wrap64 ((wrap64 (4 * t4.1)) + (if 3 < (wrap64 ((Int.tmod (rd x4_1 (wrap64 (Int.tdiv (rd x8 x13) 2))) 4) + 1)) then 3 else (wrap64 ((Int.tmod (rd x4_1 (wrap64 (Int.tdiv (rd x8 x13) 2))) 4) + 1)))))] : List Int)) ++ t4.2) (wrap64 (x13 + 1))) else none) else none))) else none) else none) else none) else none) else none) else none) else (spec_l8Minor.p52 k x2 x6_0 x8 x9 x12_0 x12_1 ([] : List Int) 0))
def spec_l8Minor.p52 : Nat → List Int → Int → List Int → List Int → Int → List Int → List Int → Int → Option (Int × List Int × List Int)
 | 0, _, _, _, _, _, _, _, _ => none
 | k + 1, x2, x6_0, x8, x9, x12_0, x12_1, x16, x17 => (if x17 < (x2.length : Int) then (if 0 ≤ x17 then (if x17 < (x2.length : Int) then ((spec_l4To.f k (rd x2 x17) x8 x9).bind fun t5 => (if x16.length + 1 ≤ 17592186044416 then (spec_l8Minor.p52 k x2 x6_0 x8 x9 x12_0 x12_1 (x16 ++ ([t5] : List Int)) (wrap64 (x17 + 1))) else none)) else none) else none) else (some (x12_0, x12_1, x16)))
end
def spec_l8Minor.f (k : Nat) (a0 : List ByteArray) (a1_0 : Int) (a1_1 : List Int) (a2 : List Int) : Option (Int × List Int × List Int) := ((spec_l8Closure.f k a0 a1_0 a1_1 a2).bind fun t1 => (spec_l8Minor.p12 k a0 a2 a1_0 a1_1 0 t1 ([] : List Int) 0 0))
def spec_Minor.f (k : Nat) (a0 : List ByteArray) (a1_0 : Int) (a1_1 : List Int) (a2 : List Int) : Option (Int × List Int × List Int × Bool) := ((spec_l8Roots.f k a0 a1_0 a1_1 a2).bind fun t1 => (if t1 = true then ((spec_l8Minor.f k a0 a1_0 a1_1 a2).bind fun t2 => (some (t2.1, t2.2.1, t2.2.2, true))) else (some (0, ([] : List Int), ([] : List Int), false))))
def laws_sameInts.p14 : Nat → List Int → List Int → Int → Option (Bool)
 | 0, _, _, _ => none
 | k + 1, x0, x1, x5 => (if x5 < (x0.length : Int) then (if 0 ≤ x5 then (if x5 < (x0.length : Int) then (if 0 ≤ x5 then (if x5 < (x1.length : Int) then (if (rd x0 x5) = (rd x1 x5) then (laws_sameInts.p14 k x0 x1 (wrap64 (x5 + 1))) else (some false)) else none) else none) else none) else none) else (some true))
def laws_sameInts.f (k : Nat) (a0 : List Int) (a1 : List Int) : Option (Bool) := (if (a0.length : Int) = (a1.length : Int) then (laws_sameInts.p14 k a0 a1 0) else (some false))
def impl_Ages.p18 : Nat → Int → List Int → List Int → List Int → Int → Int → Option (List Int)
 | 0, _, _, _, _, _, _ => none
 | k + 1, x3_0, x3_1, x7, x19, x20, x21 => (if x21 < x20 then (if 0 ≤ x21 then (if x21 < (x19.length : Int) then (if 0 ≤ (rd x19 x21) then (if (rd x19 x21) < (x3_1.length : Int) then (if 0 ≤ (Int.tmod (rd x3_1 (rd x19 x21)) 4) then (if (Int.tmod (rd x3_1 (rd x19 x21)) 4) < (x7.length : Int) then (if 0 ≤ (Int.tmod (rd x3_1 (rd x19 x21)) 4) then (if (Int.tmod (rd x3_1 (rd x19 x21)) 4) < (x7.length : Int) then (impl_Ages.p18 k x3_0 x3_1 (x7.set (Int.tmod (rd x3_1 (rd x19 x21)) 4).toNat (wrap64 ((rd x7 (Int.tmod (rd x3_1 (rd x19 x21)) 4)) + 1))) x19 x20 (wrap64 (x21 + 1))) else none) else none) else none) else none) else none) else none) else none) else none) else (some x7))
def impl_Ages.f (k : Nat) (a0 : List ByteArray) (a1_0 : Int) (a1_1 : List Int) : Option (List Int) := ((impl_heads.f k a0 a1_0 a1_1).bind fun t1 => (if t1.2 = true then (impl_Ages.p18 k a1_0 a1_1 (List.replicate 4 (0 : Int)) t1.1 (t1.1.length : Int) 0) else (some ([] : List Int))))
def spec_YoungClosure.f (k : Nat) (a0 : List ByteArray) (a1_0 : Int) (a1_1 : List Int) (a2 : List Int) : Option (List Int × Bool) := ((spec_l8Roots.f k a0 a1_0 a1_1 a2).bind fun t1 => (if t1 = true then ((spec_l8Closure.f k a0 a1_0 a1_1 a2).bind fun t2 => (some (t2, true))) else (some (([] : List Int), false))))
def impl_Starts.f (k : Nat) (a0 : List ByteArray) (a1_0 : Int) (a1_1 : List Int) : Option (List Int) := ((impl_heads.f k a0 a1_0 a1_1).bind fun t1 => (some t1.1))
mutual
def laws_FnMinorTwice.p19 : Nat → List ByteArray → Int → List Int → List Int → Int → List Int → List Int → Bool → Bool → Bool → Option (Bool)
 | 0, _, _, _, _, _, _, _, _, _, _ => none
 | k + 1, x3, x4_0, x4_1, x5, x6_0, x6_1, x7, x8, x11, x49 => (if x49 = true then (some (decide (x8 = x11))) else ((impl_Minor.f k x3 x6_0 x6_1 x7).bind fun t11 => (if t11.2.2.2 = true then ((laws_sameInts.f k t11.2.2.1 x7).bind fun t12 => (if t12 = true then (laws_FnMinorTwice.p29 k x3 x4_0 x4_1 x5 x6_0 x6_1 t11.1 t11.2.1 (!decide ((t11.2.1.length : Int) = (x6_1.length : Int)))) else (laws_FnMinorTwice.p29 k x3 x4_0 x4_1 x5 x6_0 x6_1 t11.1 t11.2.1 true))) else (laws_FnMinorTwice.p29 k x3 x4_0 x4_1 x5 x6_0 x6_1 t11.1 t11.2.1 true))))
def laws_FnMinorTwice.p29 : Nat → List ByteArray → Int → List Int → List Int → Int → List Int → Int → List Int → Bool → Option (Bool)
 | 0, _, _, _, _, _, _, _, _, _ => none
 | k + 1, x3, x4_0, x4_1, x5, x6_0, x6_1, x12_0, x12_1, x77 => (if x77 = true then (some false) else ((impl_Ages.f k x3 x6_0 x6_1).bind fun t5 => ((impl_Ages.f k x3 x12_0 x12_1).bind fun t6 => ((spec_YoungClosure.f k x3 x4_0 x4_1 x5).bind fun t7 => (if (t5.length : Int) = 4 then (if (t6.length : Int) = 4 then (if 0 < (t5.length : Int) then (if (rd t5 0) = 0 then (if 0 < (t6.length : Int) then (if (rd t6 0) = 0 then (if 1 < (t6.length : Int) then (if (rd t6 1) = 0 then (if 2 < (t6.length : Int) then (if 1 < (t5.length : Int) then (if (rd t6 2) = (rd t5 1) then (if 3 < (t6.length : Int) then (if 2 < (t5.length : Int) then (if 3 < (t5.length : Int) then (if (rd t6 3) = (wrap64 ((rd t5 2) + (rd t5 3))) then (if 1 < (t5.length : Int) then (if 2 < (t5.length : Int) then (if 3 < (t5.length : Int) then (if (wrap64 ((wrap64 ((rd t5 1) + (rd t5 2))) + (rd t5 3))) = (t7.1.length : Int) then ((impl_Starts.f k x3 x12_0 x12_1).bind fun t8 => ((impl_Starts.f k x3 x6_0 x6_1).bind fun t9 => ((laws_sameInts.f k t8 t9).bind fun t10 => (some t10)))) else (some false)) else none) else none) else none) else (some false)) else none) else none) else none) else (some false)) else none) else none) else (some false)) else none) else (some false)) else none) else (some false)) else none) else (some false)) else (some false))))))
end
def laws_FnMinorTwice.f (k : Nat) (a0 : List Int) : Option (Bool) := ((laws_big.f a0).bind fun t1 => (if t1 = true then (some true) else ((spec_DrawMinor.f k a0).bind fun t2 => ((impl_Minor.f k t2.1 t2.2.1 t2.2.2.1 t2.2.2.2).bind fun t3 => ((spec_Minor.f k t2.1 t2.2.1 t2.2.2.1 t2.2.2.2).bind fun t4 => (if t3.2.2.2 = t4.2.2.2 then (laws_FnMinorTwice.p19 k t2.1 t2.2.1 t2.2.2.1 t2.2.2.2 t3.1 t3.2.1 t3.2.2.1 t3.2.2.2 t4.2.2.2 (!t3.2.2.2)) else (laws_FnMinorTwice.p19 k t2.1 t2.2.1 t2.2.2.1 t2.2.2.2 t3.1 t3.2.1 t3.2.2.1 t3.2.2.2 t4.2.2.2 true)))))))
/-- What is left to show. -/
def laws_FnMinorTwice.Pure : Prop := ∀ (x0 : List Int), Ty.ok (.sl (.int .u8)) x0 → ∃ k, laws_FnMinorTwice.f k x0 = some true
def impl_NurseryOk.f (k : Nat) (a0 : List ByteArray) (a1_0 : Int) (a1_1 : List Int) : Option (Bool) := ((impl_heads.f k a0 a1_0 a1_1).bind fun t1 => (some t1.2))
def impl_YoungObject.f (k : Nat) (a0 : List ByteArray) (a1_0 : Int) (a1_1 : List Int) (a2 : Int) : Option (Int × List Int × Bool) := ((impl_heads.f k a0 a1_0 a1_1).bind fun t1 => (if t1.2 = true then ((impl_isHead.f k a2 t1.1).bind fun t2 => (if t2 = true then ((impl_youngObject.f a0 a1_0 a1_1 (wrap64 (Int.tdiv a2 2))).bind fun t3 => (some (t3.1, t3.2, true))) else (some (0, ([] : List Int), false)))) else (some (0, ([] : List Int), false))))
def impl_ownNursery.f (a0_0 : Int) (a0_1 : List Int) : Option (Int × List Int) := ((slices_Clone_int64.f a0_1).bind fun t1 => (some (a0_0, t1)))
end
end Go.Proofs.YtgfeafcgpeclcaaDoor.Abs
namespace Go.Proofs.YtgfeafcgpeclcaaDoor.Abs
open Go Go.RowKit
set_option linter.unusedVariables false
set_option linter.unusedSectionVars false
set_option linter.unusedSimpArgs false
theorem l1In_f (a lo hi : Int) : spec_l1In.f a lo hi = some (decide (lo ≤ a) && decide (a ≤ hi)) := by
  unfold spec_l1In.f
  split
  · rename_i h; simp [show lo ≤ a from h]
  · rename_i h; have : ¬ lo ≤ a := h; simp [this]
theorem within_f (a lo hi : Int) : impl_within.f a lo hi = some (decide (lo ≤ a) && decide (a ≤ hi)) := by
  unfold impl_within.f
  split
  · rename_i h; simp [show lo ≤ a from h]
  · rename_i h; have : ¬ lo ≤ a := h; simp [this]
end Go.Proofs.YtgfeafcgpeclcaaDoor.Abs
namespace Go.Proofs.YtgfeafcgpeclcaaDoor.Abs
open Go Go.RowKit
set_option linter.unusedVariables false
set_option linter.unusedSectionVars false
set_option linter.unusedSimpArgs false

def refk (a : Int) : Int := if a = 0 then 0 else if 2 ≤ a ∧ a ≤ 254 ∧ a % 2 = 0 then 1 else if 1 ≤ a ∧ a ≤ 799 ∧ a % 2 = 1 then 2 else -1
theorem refk_cases (a : Int) : refk a = 0 ∨ refk a = 1 ∨ refk a = 2 ∨ refk a = -1 := by
  unfold refk
  repeat' split
  all_goals simp
theorem tmod2 {a : Int} (h : 0 ≤ a) : Int.tmod a 2 = a % 2 := Int.tmod_eq_emod_of_nonneg h
theorem refKind_body (a : Int) (w : Int → Int → Int → Option Bool) (hw : ∀ a lo hi, w a lo hi = some (decide (lo ≤ a) && decide (a ≤ hi))) :
    (if a = 0 then (some 0) else ((w a 2 254).bind fun t1 => (if t1 = true then (if (Int.tmod a 2) = 0 then (some 1) else ((w a 1 799).bind fun t2 => (if t2 = true then (if (Int.tmod a 2) = 1 then (some 2) else (some (-1))) else (some (-1))))) else ((w a 1 799).bind fun t3 => (if t3 = true then (if (Int.tmod a 2) = 1 then (some 2) else (some (-1))) else (some (-1))))))) = some (refk a) := by
  simp only [hw, Option.bind_some, Bool.and_eq_true, decide_eq_true_eq]
  unfold refk
  by_cases ha : 0 ≤ a
  · simp only [tmod2 ha]
    (repeat' split) <;> first | rfl | (exfalso; omega)
  · (repeat' split) <;> first | rfl | (exfalso; omega)
theorem spec_RefKind_f (a : Int) : spec_RefKind.f a = some (refk a) := refKind_body a spec_l1In.f l1In_f
theorem impl_RefKind_f (a : Int) : impl_RefKind.f a = some (refk a) := refKind_body a impl_within.f within_f
end Go.Proofs.YtgfeafcgpeclcaaDoor.Abs
namespace Go.Proofs.YtgfeafcgpeclcaaDoor.Abs
open Go Go.RowKit
set_option linter.unusedVariables false
set_option linter.unusedSectionVars false
set_option linter.unusedSimpArgs false

theorem impl_isYoung_f (a : Int) : impl_isYoung.f a = some (decide (refk a = 2)) := by
  unfold impl_isYoung.f
  rw [impl_RefKind_f, Option.bind_some]
end Go.Proofs.YtgfeafcgpeclcaaDoor.Abs
namespace Go.Proofs.YtgfeafcgpeclcaaDoor.Abs
open Go Go.RowKit
set_option linter.unusedVariables false
set_option linter.unusedSectionVars false
set_option linter.unusedSimpArgs false

/-! ### texts and lists of bytes -/
def isBytes (xs : List Int) : Prop := ∀ x ∈ xs, 0 ≤ x ∧ x ≤ 255
theorem bytesOf_isBytes (s : ByteArray) : isBytes (bytesOf s) := by
  intro x hx
  obtain ⟨b, _, rfl⟩ := List.mem_map.1 hx
  have := b.toNat_lt
  omega
theorem isBytes_of {xs : List Int} (h : ∀ x ∈ xs, (Go.Lit.int .u8 x).wf = true) : isBytes xs := by
  intro x hx
  have := h x hx
  simp [Go.Lit.wf, Go.IntKind.min, Go.IntKind.max, Go.IntKind.signed, Go.IntKind.bits] at this
  omega
theorem isBytes_set {xs : List Int} (h : isBytes xs) (i : Nat) {v : Int} (h0 : 0 ≤ v) (h1 : v ≤ 255) : isBytes (xs.set i v) := by
  intro x hx
  rcases List.mem_or_eq_of_mem_set hx with h2 | rfl
  · exact h x h2
  · exact ⟨h0, h1⟩
theorem isBytes_getD {xs : List Int} (h : isBytes xs) (i : Nat) : 0 ≤ xs.getD i 0 ∧ xs.getD i 0 ≤ 255 := by
  rcases Nat.lt_or_ge i xs.length with hi | hi
  · rw [List.getD_eq_getElem?_getD, List.getElem?_eq_getElem hi]
    exact h _ (List.getElem_mem hi)
  · rw [List.getD_eq_getElem?_getD, List.getElem?_eq_none hi]
    simp
theorem isBytes_replicate (n : Nat) : isBytes (List.replicate n 0) := by
  intro x hx
  rw [List.eq_of_mem_replicate hx]
  omega
theorem strOfNums_size (xs : List Int) : (strOfNums xs).size = xs.length := by
  show (List.toArray _).size = _
  simp
theorem bytesOf_strOfNums {xs : List Int} (h : isBytes xs) : bytesOf (strOfNums xs) = xs := by
  unfold bytesOf strOfNums
  simp only [List.map_map]
  conv => rhs; rw [← List.map_id xs]
  refine List.map_congr_left (fun x hx => ?_)
  have := h x hx
  simp
  omega
theorem strOfNums_bytesOf (s : ByteArray) : strOfNums (bytesOf s) = s := by
  unfold bytesOf strOfNums
  simp [Function.comp_def]
theorem bytesOf_inj {s t : ByteArray} (h : bytesOf s = bytesOf t) : s = t := by rw [← strOfNums_bytesOf s, h, strOfNums_bytesOf]
theorem toList_bytesOf (s : ByteArray) : s.toList.map (fun b => (b.toNat : Int)) = bytesOf s := by
  unfold bytesOf
  rw [ByteArray.toList_eq]
theorem toList_inj {s t : ByteArray} : s.toList = t.toList ↔ s = t :=
  ⟨fun h => bytesOf_inj (by rw [← toList_bytesOf, ← toList_bytesOf, h]), fun h => by rw [h]⟩
theorem toList_beq (s t : ByteArray) : (s.toList == t.toList) = decide (s = t) := by
  rw [Bool.eq_iff_iff]
  simp [toList_inj]
theorem bt_bytesOf (s : ByteArray) (i : Nat) : bt s (i : Int) = (bytesOf s).getD i 0 := by
  rw [← rd_bytesOf, rd_eq]

/-! ### a byte's bits -/
def bitv (x : Int) (r : Nat) : Bool := x / 2 ^ r % 2 == 1
theorem bitv_nat (n r : Nat) : bitv (n : Int) r = n.testBit r := by
  unfold bitv
  rw [Nat.testBit_eq_decide_div_mod_eq]
  have e : (n : Int) / 2 ^ r % 2 = ((n / 2 ^ r % 2 : Nat) : Int) := by simp
  rw [e, Bool.eq_iff_iff, beq_iff_eq, decide_eq_true_eq]
  omega
theorem wrap_u8_nat {n : Nat} (h : n < 256) : IntKind.u8.wrap (n : Int) = n := by
  rw [IntKind.wrap_u8]
  omega
theorem cast_mod {m : Nat} (h : m < 256) : (m : Int) % 256 = (m : Int) := by omega
theorem two_pow_lt {r : Nat} (hr : r < 8) : (2 ^ r : Nat) < 256 := by
  have : (2 ^ r : Nat) ≤ 2 ^ 7 := Nat.pow_le_pow_right (by decide) (by omega)
  omega
section
variable {x : Int} (h0 : 0 ≤ x) (h1 : x ≤ 255) {r : Nat} (hr : r < 8)
include h0 h1 hr
theorem byte_xor : (0 ≤ Go.bits .xor .u8 x (2 ^ r % 256) ∧ Go.bits .xor .u8 x (2 ^ r % 256) ≤ 255) ∧ ∀ q, q < 8 → bitv (Go.bits .xor .u8 x (2 ^ r % 256)) q = (bitv x q != decide (q = r)) := by
  obtain ⟨n, rfl⟩ := Int.eq_ofNat_of_zero_le h0
  have hp := two_pow_lt hr
  have e : (2 : Int) ^ r % 256 = ((2 ^ r : Nat) : Int) := by rw [show (2 : Int) ^ r = ((2 ^ r : Nat) : Int) from (Int.natCast_pow 2 r).symm]; exact cast_mod hp
  have hlt := ((BitVec.ofNat 8 n) ^^^ (BitVec.ofNat 8 (2 ^ r))).isLt
  have g : Go.bits .xor .u8 (n : Int) (2 ^ r % 256) = ((((BitVec.ofNat 8 n) ^^^ (BitVec.ofNat 8 (2 ^ r))).toNat : Nat) : Int) := by
    rw [e]
    unfold Go.bits
    simp only [BitVec.ofInt_natCast]
    exact wrap_u8_nat (Nat.lt_of_lt_of_eq hlt (by decide))
  rw [g]
  refine ⟨⟨by omega, by simp only [Nat.reducePow] at hlt; omega⟩, fun q hq => ?_⟩
  rw [bitv_nat, bitv_nat, BitVec.testBit_toNat, BitVec.getLsbD_xor, BitVec.getLsbD_ofNat, BitVec.getLsbD_ofNat, Nat.testBit_two_pow]
  simp [hq, eq_comm]
theorem byte_clear : (0 ≤ Go.bits .andNot .u8 x (2 ^ r % 256) ∧ Go.bits .andNot .u8 x (2 ^ r % 256) ≤ 255) ∧ ∀ q, q < 8 → bitv (Go.bits .andNot .u8 x (2 ^ r % 256)) q = (bitv x q && !decide (q = r)) := by
  obtain ⟨n, rfl⟩ := Int.eq_ofNat_of_zero_le h0
  have hp := two_pow_lt hr
  have e : (2 : Int) ^ r % 256 = ((2 ^ r : Nat) : Int) := by rw [show (2 : Int) ^ r = ((2 ^ r : Nat) : Int) from (Int.natCast_pow 2 r).symm]; exact cast_mod hp
  have hlt := ((BitVec.ofNat 8 n) &&& ~~~(BitVec.ofNat 8 (2 ^ r))).isLt
  have g : Go.bits .andNot .u8 (n : Int) (2 ^ r % 256) = ((((BitVec.ofNat 8 n) &&& ~~~(BitVec.ofNat 8 (2 ^ r))).toNat : Nat) : Int) := by
    rw [e]
    unfold Go.bits
    simp only [BitVec.ofInt_natCast]
    exact wrap_u8_nat (Nat.lt_of_lt_of_eq hlt (by decide))
  rw [g]
  refine ⟨⟨by omega, by simp only [Nat.reducePow] at hlt; omega⟩, fun q hq => ?_⟩
  rw [bitv_nat, bitv_nat, BitVec.testBit_toNat, BitVec.getLsbD_and, BitVec.getLsbD_not, BitVec.getLsbD_ofNat, BitVec.getLsbD_ofNat, Nat.testBit_two_pow]
  simp [hq, eq_comm]
theorem byte_set : (0 ≤ Go.bits .or .u8 x (2 ^ r % 256) ∧ Go.bits .or .u8 x (2 ^ r % 256) ≤ 255) ∧ ∀ q, q < 8 → bitv (Go.bits .or .u8 x (2 ^ r % 256)) q = (bitv x q || decide (q = r)) := by
  obtain ⟨n, rfl⟩ := Int.eq_ofNat_of_zero_le h0
  have hp := two_pow_lt hr
  have e : (2 : Int) ^ r % 256 = ((2 ^ r : Nat) : Int) := by rw [show (2 : Int) ^ r = ((2 ^ r : Nat) : Int) from (Int.natCast_pow 2 r).symm]; exact cast_mod hp
  have hlt := ((BitVec.ofNat 8 n) ||| (BitVec.ofNat 8 (2 ^ r))).isLt
  have g : Go.bits .or .u8 (n : Int) (2 ^ r % 256) = ((((BitVec.ofNat 8 n) ||| (BitVec.ofNat 8 (2 ^ r))).toNat : Nat) : Int) := by
    rw [e]
    unfold Go.bits
    simp only [BitVec.ofInt_natCast]
    exact wrap_u8_nat (Nat.lt_of_lt_of_eq hlt (by decide))
  rw [g]
  refine ⟨⟨by omega, by simp only [Nat.reducePow] at hlt; omega⟩, fun q hq => ?_⟩
  rw [bitv_nat, bitv_nat, BitVec.testBit_toNat, BitVec.getLsbD_or, BitVec.getLsbD_ofNat, BitVec.getLsbD_ofNat, Nat.testBit_two_pow]
  simp [hq, eq_comm]
end
theorem byte_ext {x y : Int} (h0 : 0 ≤ x) (h1 : x ≤ 255) (h2 : 0 ≤ y) (h3 : y ≤ 255) (h : ∀ q, q < 8 → bitv x q = bitv y q) : x = y := by
  obtain ⟨n, rfl⟩ := Int.eq_ofNat_of_zero_le h0
  obtain ⟨m, rfl⟩ := Int.eq_ofNat_of_zero_le h2
  refine congrArg _ (Nat.eq_of_testBit_eq (fun i => ?_))
  rcases Nat.lt_or_ge i 8 with hi | hi
  · simpa [bitv_nat] using h i hi
  · have hp : (2 : Nat) ^ 8 ≤ 2 ^ i := Nat.pow_le_pow_right (by decide) hi
    rw [Nat.testBit_lt_two_pow (by omega), Nat.testBit_lt_two_pow (by omega)]
/-- Bit i of a list of bytes. -/
def bitL (xs : List Int) (i : Nat) : Bool := bitv (xs.getD (i / 8) 0) (i % 8)
theorem bytes_ext {xs ys : List Int} (hx : isBytes xs) (hy : isBytes ys) (hl : xs.length = ys.length) (h : ∀ i, i < 8 * xs.length → bitL xs i = bitL ys i) : xs = ys := by
  refine List.ext_getElem hl (fun m h1 h2 => ?_)
  have gx := hx _ (List.getElem_mem h1)
  have gy := hy _ (List.getElem_mem h2)
  refine byte_ext gx.1 gx.2 gy.1 gy.2 (fun q hq => ?_)
  have e := h (8 * m + q) (by omega)
  unfold bitL at e
  rw [show (8 * m + q) / 8 = m from by omega, show (8 * m + q) % 8 = q from by omega] at e
  simpa [List.getD_eq_getElem?_getD, h1, h2] using e
/-- A byte changed: which bits change. -/
theorem bitL_set {xs : List Int} {i : Nat} (hi : i < xs.length) (v : Int) (j : Nat) : bitL (xs.set i v) j = if j / 8 = i then bitv v (j % 8) else bitL xs j := by
  unfold bitL
  split
  · rename_i h
    rw [h, List.getD_eq_getElem?_getD, List.getElem?_set_self hi]
    rfl
  · rename_i h
    rw [List.getD_eq_getElem?_getD, List.getElem?_set_ne (fun e => h e.symm), ← List.getD_eq_getElem?_getD]
end Go.Proofs.YtgfeafcgpeclcaaDoor.Abs
namespace Go.Proofs.YtgfeafcgpeclcaaDoor.Abs
open Go Go.RowKit
set_option linter.unusedVariables false
set_option linter.unusedSectionVars false
set_option linter.unusedSimpArgs false

theorem rdOf_get {α : Type} {d : α} {l : List α} {i : Nat} (h : i < l.length) : rdOf d l (i : Int) = l[i] := by
  simp [rdOf, List.getD_eq_getElem?_getD, List.getElem?_eq_getElem h]

/-- The search: the first place where the test says yes, or -1. -/
theorem index_ev {α : Type} {d : α} {l : List α} (hl : l.length ≤ 1099511627776) {g : Nat → Int → Option Int} {t : Nat → α → Option Bool} {f : α → Bool}
    (hg : ∀ k (i : Int), g (k + 1) i = if i < (l.length : Int) then (if 0 ≤ i then (if i < (l.length : Int) then ((t k (rdOf d l i)).bind fun b => if b = true then some i else g k (wrap64 (i + 1))) else none) else none) else some (-1))
    (ht : ∀ x ∈ l, Ev (fun k => t k x) (f x)) : ∃ r, Ev (fun k => g k 0) r ∧ decide (r ≥ 0) = l.any f := by
  have lp : ∀ (m i : Nat), l.length - i = m → i ≤ l.length → ∃ r, Ev (fun k => g k (i : Int)) r ∧ decide (r ≥ 0) = (l.drop i).any f := by
    intro m
    induction m with
    | zero =>
      intro i hm hi
      rw [List.drop_eq_nil_of_le (by omega)]
      exact ⟨-1, Ev.step (fun k => by rw [hg]) (Ev.neg (by omega) (Ev.eq rfl)), by simp⟩
    | succ m ih =>
      intro i hm hi
      have hlt : i < l.length := by omega
      obtain ⟨r, hr, he⟩ := ih (i + 1) (by omega) (by omega)
      rw [List.drop_eq_getElem_cons hlt, List.any_cons]
      cases c : f l[i] with
      | true =>
        refine ⟨(i : Int), Ev.step (fun k => by rw [hg]) (Ev.pos (by omega) (Ev.pos (by omega) (Ev.pos (by omega) ?_))), by simp⟩
        rw [rdOf_get hlt]
        exact Ev.bind (ht _ (List.getElem_mem hlt)) (Ev.pos c (Ev.eq rfl))
      | false =>
        refine ⟨r, Ev.step (fun k => by rw [hg]) (Ev.pos (by omega) (Ev.pos (by omega) (Ev.pos (by omega) ?_))), by rw [he, Bool.false_or]⟩
        rw [rdOf_get hlt, show wrap64 ((i : Int) + 1) = ((i + 1 : Nat) : Int) from by rw [w64 (by omega) (by omega)]; omega]
        exact Ev.bind (ht _ (List.getElem_mem hlt)) (Ev.neg (by simp [c]) hr)
  obtain ⟨r, h1, h2⟩ := lp _ 0 rfl (Nat.zero_le _)
  exact ⟨r, h1, by rw [h2, List.drop_zero]⟩

/-- ContainsFunc. -/
theorem contains_ev {α : Type} {d : α} {l : List α} (hl : l.length ≤ 1099511627776) {g : Nat → Int → Option Int} {t : Nat → α → Option Bool} {f : α → Bool}
    (hg : ∀ k (i : Int), g (k + 1) i = if i < (l.length : Int) then (if 0 ≤ i then (if i < (l.length : Int) then ((t k (rdOf d l i)).bind fun b => if b = true then some i else g k (wrap64 (i + 1))) else none) else none) else some (-1))
    (ht : ∀ x ∈ l, Ev (fun k => t k x) (f x)) : Ev (fun k => (g k 0).bind fun t1 => some (decide (t1 ≥ 0))) (l.any f) := by
  obtain ⟨r, h1, h2⟩ := index_ev hl hg ht
  exact Ev.bind h1 (Ev.eq h2)
end Go.Proofs.YtgfeafcgpeclcaaDoor.Abs
namespace Go.Proofs.YtgfeafcgpeclcaaDoor.Abs
open Go Go.RowKit
set_option linter.unusedVariables false
set_option linter.unusedSectionVars false
set_option linter.unusedSimpArgs false
def kindsOk (l : List UInt8) : Bool := l.all fun b => [105, 114].contains b
def typeOk (s : ByteArray) : Bool := decide (1 ≤ s.size ∧ s.size ≤ 23) && kindsOk s.data.toList
def typesOk (l : List ByteArray) : Bool := decide (1 ≤ l.length ∧ l.length ≤ 12) && l.all typeOk
theorem dropWhile_all {p : UInt8 → Bool} : ∀ l : List UInt8, (∀ x ∈ l.dropWhile p, p x = true) → l.dropWhile p = []
  | [], _ => rfl
  | a :: l, h => by
    by_cases c : p a = true
    · rw [List.dropWhile_cons_of_pos c] at h ⊢
      exact dropWhile_all l h
    · rw [List.dropWhile_cons_of_neg c] at h
      exact absurd (h a (List.mem_cons_self ..)) c
theorem dropWhile_nil_iff {p : UInt8 → Bool} (l : List UInt8) : l.dropWhile p = [] ↔ ∀ x ∈ l, p x = true := by
  constructor
  · intro h
    induction l with
    | nil => simp
    | cons a l ih =>
      by_cases c : p a = true
      · rw [List.dropWhile_cons_of_pos c] at h
        intro x hx
        rcases List.mem_cons.1 hx with rfl | hx
        · exact c
        · exact ih h x hx
      · rw [List.dropWhile_cons_of_neg c] at h
        cases h
  · exact fun h => dropWhile_all l (fun x hx => h x ((List.dropWhile_sublist _).mem hx))
theorem trim_nil (l cs : List UInt8) : Lib.trimS l cs = [] ↔ ∀ x ∈ l, cs.contains x = true := by
  unfold Lib.trimS Lib.trimLeftS Lib.trimRightS
  rw [dropWhile_nil_iff]
  constructor
  · intro h
    have h1 := dropWhile_all (p := fun x => cs.contains x) l.reverse (fun x hx => h x (List.mem_reverse.2 hx))
    rw [dropWhile_nil_iff] at h1
    exact fun x hx => h1 x (List.mem_reverse.2 hx)
  · intro h x hx
    exact h x (List.mem_reverse.1 ((List.dropWhile_sublist _).mem (List.mem_reverse.1 hx)))
theorem isType_f (s : ByteArray) (hs : s.size ≤ 1048576) : impl_isType.f s = some (typeOk s) := by
  unfold impl_isType.f typeOk
  rw [within_f, Option.bind_some]
  by_cases c : 1 ≤ s.size ∧ s.size ≤ 23
  · rw [if_pos (by simp; omega), decide_eq_true c, Bool.true_and]
    have ht : strings_Trim.f s (⟨#[105, 114]⟩ : ByteArray) = some ⟨(Lib.trimS s.data.toList [105, 114]).toArray⟩ := by
      unfold strings_Trim.f
      rw [if_pos (by omega), if_pos (by decide), if_pos (by decide)]
    rw [ht, Option.bind_some]
    congr 1
    rw [Bool.eq_iff_iff, decide_eq_true_iff, ByteArray.toList_eq, ByteArray.toList_eq]
    show (Lib.trimS s.data.toList [105, 114]).toArray.toList = [] ↔ _
    rw [trim_nil, kindsOk, List.all_eq_true]
  · rw [if_neg (by simp; omega), decide_eq_false c, Bool.false_and]
theorem impl_TypesOk_ev (l : List ByteArray) (hs : ∀ x ∈ l, x.size ≤ 1048576) : Ev (fun k => impl_TypesOk.f k l) (typesOk l) := by
  have hany : l.length ≤ 12 → Ev (fun k => slices_ContainsFunc_string_at_impl_TypesOk_1.f k l) (l.any fun x => !typeOk x) := fun hl => by
    unfold slices_ContainsFunc_string_at_impl_TypesOk_1.f slices_IndexFunc_string_at_impl_TypesOk_1.f
    refine contains_ev (d := ByteArray.empty) (l := l) (by omega) (g := fun k i => slices_IndexFunc_string_at_impl_TypesOk_1.p6 k l (l.length : Int) i) (t := fun _ x => impl_TypesOk_1.f x) (f := fun x => !typeOk x) (fun k i => by rw [slices_IndexFunc_string_at_impl_TypesOk_1.p6]) (fun x hx => ?_)
    unfold impl_TypesOk_1.f
    exact Ev.bindo (isType_f x (hs x hx)) (Ev.eq rfl)
  unfold impl_TypesOk.f typesOk
  refine Ev.bindo rfl (Ev.bindo (within_f _ _ _) ?_)
  by_cases c : 1 ≤ l.length ∧ l.length ≤ 12
  · refine Ev.pos (by simp; omega) (Ev.bind (hany c.2) (Ev.eq ?_))
    rw [decide_eq_true c, Bool.true_and, List.any_eq_not_all_not]
    simp
  · refine Ev.neg (by simp; omega) (Ev.eq ?_)
    rw [decide_eq_false c, Bool.false_and]
theorem bt_get {s : ByteArray} {i : Nat} (h : i < s.data.toList.length) : bt s (i : Int) = (s.data.toList[i].toNat : Int) := by
  have h' : i < s.size := h
  rw [← bt_at s (i : Int) (by simpa using h')]
  simp [ByteArray.getElem_eq_getElem_data]
theorem l3Type_ev (s : ByteArray) (hs : s.size ≤ 1048576) : Ev (fun k => spec_l3Type.f k s) (typeOk s) := by
  have hlen : s.data.toList.length = s.size := rfl
  have lp : ∀ (d i : Nat), s.size - i = d → i ≤ s.size → Ev (fun k => spec_l3Type.p6 k s (i : Int)) (decide (1 ≤ s.size ∧ s.size ≤ 23) && kindsOk (s.data.toList.drop i)) := by
    intro d
    induction d with
    | zero =>
      intro i hd hi
      rw [List.drop_eq_nil_of_le (by omega)]
      refine Ev.step (fun k => by rw [spec_l3Type.p6]) (Ev.neg (by omega) (Ev.bindo (l1In_f _ _ _) (Ev.eq ?_)))
      simp only [kindsOk, List.all_nil, Bool.and_true]
      rw [Bool.eq_iff_iff]
      simp
      omega
    | succ d ih =>
      intro i hd hi
      have hlt : i < s.data.toList.length := by omega
      have ih := ih (i + 1) (by omega) (by omega)
      refine Ev.step (fun k => by rw [spec_l3Type.p6]) ?_
      rw [byteAt_eq, bt_get hlt, show wrap64 ((i : Int) + 1) = ((i + 1 : Nat) : Int) from by rw [w64 (by omega) (by omega)]; omega, List.drop_eq_getElem_cons hlt]
      generalize s.data.toList[i] = b at *
      have hb : kindsOk (b :: s.data.toList.drop (i + 1)) = ([105, 114].contains b && kindsOk (s.data.toList.drop (i + 1))) := rfl
      rw [hb]
      refine Ev.pos (by omega) (Ev.pos (by omega) (Ev.pos (by omega) (Ev.cases (fun c => ?_) (fun c => Ev.pos (by omega) (Ev.pos (by omega) (Ev.cases (fun c2 => ?_) (fun c2 => Ev.eq ?_)))))))
      · have e : b = 105 := UInt8.toNat_inj.1 (by show b.toNat = 105; omega)
        subst e
        rw [show [105, 114].contains (105 : UInt8) = true from rfl, Bool.true_and]
        exact ih
      · have e : b = 114 := UInt8.toNat_inj.1 (by show b.toNat = 114; omega)
        subst e
        rw [show [105, 114].contains (114 : UInt8) = true from rfl, Bool.true_and]
        exact ih
      · have e : [105, 114].contains b = false := by
          rw [Bool.eq_false_iff]
          intro h
          simp at h
          rcases h with h | h
          · subst h; exact c rfl
          · subst h; exact c2 rfl
        rw [e, Bool.false_and, Bool.and_false]
  unfold spec_l3Type.f typeOk
  have h := lp _ 0 rfl (by omega)
  rw [List.drop_zero] at h
  exact h
theorem spec_TypesOk_ev (l : List ByteArray) (hl : l.length ≤ 1048576) (hs : ∀ x ∈ l, x.size ≤ 1048576) : Ev (fun k => spec_TypesOk.f k l) (typesOk l) := by
  have lp : ∀ (d i : Nat), l.length - i = d → i ≤ l.length → Ev (fun k => spec_TypesOk.p14 k l (i : Int)) ((l.drop i).all typeOk) := by
    intro d
    induction d with
    | zero =>
      intro i hd hi
      rw [List.drop_eq_nil_of_le (by omega)]
      refine Ev.step (fun k => by rw [spec_TypesOk.p14]) ?_
      exact Ev.neg (by omega) (Ev.eq rfl)
    | succ d ih =>
      intro i hd hi
      have hlt : i < l.length := by omega
      have ih := ih (i + 1) (by omega) (by omega)
      refine Ev.step (fun k => by rw [spec_TypesOk.p14]) ?_
      rw [show rdOf ByteArray.empty l (i : Int) = l[i] from by simp [rdOf, List.getD_eq_getElem?_getD, List.getElem?_eq_getElem hlt], show wrap64 ((i : Int) + 1) = ((i + 1 : Nat) : Int) from by rw [w64 (by omega) (by omega)]; omega, List.drop_eq_getElem_cons hlt, List.all_cons]
      refine Ev.pos (by omega) (Ev.pos (by omega) (Ev.pos (by omega) (Ev.bind (l3Type_ev l[i] (hs _ (List.getElem_mem hlt))) (Ev.cases (fun c => ?_) (fun c => ?_)))))
      · rw [c, Bool.true_and]
        exact ih
      · rw [Bool.eq_false_iff.2 c, Bool.false_and]
        exact Ev.eq rfl
  unfold spec_TypesOk.f typesOk
  refine Ev.bindo (l1In_f _ _ _) ?_
  by_cases c : 1 ≤ l.length ∧ l.length ≤ 12
  · rw [decide_eq_true c, Bool.true_and]
    refine Ev.pos (by simp; omega) ?_
    have h := lp _ 0 rfl (by omega)
    rw [List.drop_zero] at h
    exact h
  · rw [decide_eq_false c, Bool.false_and]
    exact Ev.neg (by simp; omega) (Ev.eq rfl)
end Go.Proofs.YtgfeafcgpeclcaaDoor.Abs
namespace Go.Proofs.YtgfeafcgpeclcaaDoor.Abs
open Go Go.RowKit
set_option linter.unusedVariables false
set_option linter.unusedSectionVars false
set_option linter.unusedSimpArgs false
theorem sorted_ext : ∀ {l m : List Int}, l.Pairwise (· < ·) → m.Pairwise (· < ·) → (∀ x, x ∈ l ↔ x ∈ m) → l = m
  | [], [], _, _, _ => rfl
  | [], y :: m, _, _, h => absurd ((h y).2 (List.mem_cons_self ..)) (by simp)
  | x :: l, [], _, _, h => absurd ((h x).1 (List.mem_cons_self ..)) (by simp)
  | x :: l, y :: m, hl, hm, h => by
    rw [List.pairwise_cons] at hl hm
    have e : x = y := by
      rcases List.mem_cons.1 ((h x).1 (List.mem_cons_self ..)) with e | hx
      · exact e
      · rcases List.mem_cons.1 ((h y).2 (List.mem_cons_self ..)) with e | hy
        · exact e.symm
        · have h1 := hl.1 y hy
          have h2 := hm.1 x hx
          omega
    subst e
    rw [sorted_ext hl.2 hm.2 (fun z => ?_)]
    have hz := h z
    simp only [List.mem_cons] at hz
    constructor
    · intro h1
      have h2 := hl.1 z h1
      rcases hz.1 (.inr h1) with e | h3
      · omega
      · exact h3
    · intro h1
      have h2 := hm.1 z h1
      rcases hz.2 (.inr h1) with e | h3
      · omega
      · exact h3
theorem placeIn_ev (l : List Int) (x : Int) (hl : l.length ≤ 1099511627776) : ∃ r, Ev (fun k => spec_l7Place.f k l x) r ∧ ((0 ≤ r ∧ x ∈ l) ∨ (r = -1 ∧ x ∉ l)) := by
  have lp : ∀ (d i : Nat), l.length - i = d → i ≤ l.length → x ∉ l.take i → ∃ r, Ev (fun k => spec_l7Place.p6 k l x (i : Int)) r ∧ ((0 ≤ r ∧ x ∈ l) ∨ (r = -1 ∧ x ∉ l)) := by
    intro d
    induction d with
    | zero =>
      intro i hd hi hx
      refine ⟨-1, Ev.step (fun k => by rw [spec_l7Place.p6]) (Ev.neg (by omega) (Ev.eq rfl)), .inr ⟨rfl, ?_⟩⟩
      rwa [List.take_of_length_le (by omega)] at hx
    | succ d ih =>
      intro i hd hi hx
      have hlt : i < l.length := by omega
      by_cases e : l[i] = x
      · refine ⟨i, Ev.step (fun k => by rw [spec_l7Place.p6]) ?_, .inl ⟨by omega, e ▸ List.getElem_mem hlt⟩⟩
        rw [rd_get hlt]
        exact Ev.pos (by omega) (Ev.pos (by omega) (Ev.pos (by omega) (Ev.pos e (Ev.eq rfl))))
      · obtain ⟨r, hr, hp⟩ := ih (i + 1) (by omega) (by omega) (by
          rw [take_snoc2 l i hlt, List.mem_append]
          simp only [List.mem_singleton]
          rintro (h | h)
          · exact hx h
          · exact e h.symm)
        refine ⟨r, Ev.step (fun k => by rw [spec_l7Place.p6]) ?_, hp⟩
        rw [rd_get hlt, show wrap64 ((i : Int) + 1) = ((i + 1 : Nat) : Int) from by rw [w64 (by omega) (by omega)]; omega]
        exact Ev.pos (by omega) (Ev.pos (by omega) (Ev.pos (by omega) (Ev.neg e hr)))
  unfold spec_l7Place.f
  exact lp _ 0 rfl (by omega) (by simp)
theorem less_f (a b : Int) : cmp_Less_int64.f a b = some (decide (a < b)) := by
  unfold cmp_Less_int64.f cmp_isNaN_int64.f
  simp
theorem nan_f (a : Int) : slices_isNaN_int64.f a = some false := by
  unfold slices_isNaN_int64.f
  simp
theorem bsearch_ev (l : List Int) (x : Int) (hs : l.Pairwise (· < ·)) (hl : l.length ≤ 1099511627776) : ∃ (i : Nat) (f : Bool), Ev (fun k => slices_BinarySearch_int64.f k l x) ((i : Int), f) ∧ i ≤ l.length ∧ (∀ j (h : j < l.length), j < i → l[j] < x) ∧ (∀ j (h : j < l.length), i < j → x < l[j]) ∧ (f = true → ∃ h : i < l.length, l[i] = x) ∧ (f = false → ∀ h : i < l.length, x < l[i]) := by
  rw [List.pairwise_iff_getElem] at hs
  have u64 : ∀ y : Int, 0 ≤ y → y < 18446744073709551616 → IntKind.u64.wrap y = y := by
    intro y h0 h1
    simp only [IntKind.wrap, IntKind.bits, IntKind.signed]
    simp
    omega
  have lp : ∀ (d lo hi : Nat), hi - lo ≤ d → lo ≤ hi → hi ≤ l.length → (∀ j (h : j < l.length), j < lo → l[j] < x) → (∀ j (h : j < l.length), hi ≤ j → x ≤ l[j]) →
      ∃ (i : Nat) (f : Bool), Ev (fun k => slices_BinarySearch_int64.p8 k l x (l.length : Int) (lo : Int) (hi : Int)) ((i : Int), f) ∧ i ≤ l.length ∧ (∀ j (h : j < l.length), j < i → l[j] < x) ∧ (∀ j (h : j < l.length), i < j → x < l[j]) ∧ (f = true → ∃ h : i < l.length, l[i] = x) ∧ (f = false → ∀ h : i < l.length, x < l[i]) := by
    intro d
    induction d with
    | zero =>
      intro lo hi hd hle hhi h1 h2
      obtain rfl : lo = hi := by omega
      by_cases hlt : lo < l.length
      · have hge := h2 lo hlt (Nat.le_refl _)
        have hup : ∀ j (h : j < l.length), lo < j → x < l[j] := fun j h hj => by
          have := hs lo j hlt h hj
          omega
        by_cases e : l[lo] = x
        · refine ⟨lo, true, ?_, by omega, h1, hup, fun _ => ⟨hlt, e⟩, by simp⟩
          refine Ev.step (fun k => by rw [slices_BinarySearch_int64.p8]) ?_
          rw [rd_get hlt]
          exact Ev.neg (by omega) (Ev.pos (by omega) (Ev.pos (by omega) (Ev.pos (by omega) (Ev.pos e (Ev.eq rfl)))))
        · refine ⟨lo, false, ?_, by omega, h1, hup, by simp, fun _ _ => by omega⟩
          refine Ev.step (fun k => by rw [slices_BinarySearch_int64.p8]) ?_
          rw [rd_get hlt]
          refine Ev.neg (by omega) (Ev.pos (by omega) (Ev.pos (by omega) (Ev.pos (by omega) (Ev.neg e (Ev.pos (by omega) (Ev.pos (by omega) ?_))))))
          exact Ev.bindo (nan_f _) (Ev.neg (by simp) (Ev.eq rfl))
      · refine ⟨lo, false, ?_, by omega, h1, fun j h hj => by omega, by simp, fun _ h => by omega⟩
        refine Ev.step (fun k => by rw [slices_BinarySearch_int64.p8]) ?_
        exact Ev.neg (by omega) (Ev.neg (by omega) (Ev.eq rfl))
    | succ d ih =>
      intro lo hi hd hle hhi h1 h2
      by_cases c : lo < hi
      · have hm : (lo + hi) / 2 < l.length := by omega
        have e1 : wrap64 (IntKind.u64.wrap (wrap64 ((lo : Int) + (hi : Int))) / 2) = (((lo + hi) / 2 : Nat) : Int) := by
          rw [w64 (x := (lo : Int) + (hi : Int)) (by omega) (by omega), u64 _ (by omega) (by omega), w64 (by omega) (by omega)]
          omega
        by_cases c2 : l[(lo + hi) / 2] < x
        · obtain ⟨i, f, hev, hr⟩ := ih ((lo + hi) / 2 + 1) hi (by omega) (by omega) hhi (fun j h hj => by
            by_cases e : j = (lo + hi) / 2
            · subst e; exact c2
            · have := hs j ((lo + hi) / 2) h hm (by omega)
              omega) h2
          refine ⟨i, f, ?_, hr⟩
          refine Ev.step (fun k => by rw [slices_BinarySearch_int64.p8]) ?_
          rw [shr1_u64, e1, rd_get hm, show wrap64 ((((lo + hi) / 2 : Nat) : Int) + 1) = (((lo + hi) / 2 + 1 : Nat) : Int) from by rw [w64 (by omega) (by omega)]; omega]
          refine Ev.pos (by omega) (Ev.pos (by omega) (Ev.pos (by omega) (Ev.bindo (less_f _ _) ?_)))
          exact Ev.pos (by simpa using c2) hev
        · obtain ⟨i, f, hev, hr⟩ := ih lo ((lo + hi) / 2) (by omega) (by omega) (by omega) h1 (fun j h hj => by
            by_cases e : j = (lo + hi) / 2
            · subst e; omega
            · have := hs ((lo + hi) / 2) j hm h (by omega)
              omega)
          refine ⟨i, f, ?_, hr⟩
          refine Ev.step (fun k => by rw [slices_BinarySearch_int64.p8]) ?_
          rw [shr1_u64, e1, rd_get hm]
          refine Ev.pos (by omega) (Ev.pos (by omega) (Ev.pos (by omega) (Ev.bindo (less_f _ _) ?_)))
          exact Ev.neg (by simpa using c2) hev
      · exact ih lo hi (by omega) hle hhi h1 h2
  unfold slices_BinarySearch_int64.f
  exact lp l.length 0 l.length (by omega) (by omega) (Nat.le_refl _) (fun j h hj => by omega) (fun j h hj => by omega)
end Go.Proofs.YtgfeafcgpeclcaaDoor.Abs
namespace Go.Proofs.YtgfeafcgpeclcaaDoor.Abs.Pu
open Go Go.RowKit
set_option linter.unusedVariables false
set_option linter.unusedSectionVars false
set_option linter.unusedSimpArgs false
theorem rdB_get {l : List ByteArray} {i : Nat} (h : i < l.length) : rdOf ByteArray.empty l (i : Int) = l[i] := by
  simp [rdOf, List.getD_eq_getElem?_getD, List.getElem?_eq_getElem h]
/-- The text of a type. -/
def kindsAt (types : List ByteArray) (h : Int) : ByteArray := rdOf ByteArray.empty types (h / 4)
/-- The beginnings of the objects from a word on. -/
def parseFrom (types : List ByteArray) (words : List Int) : Nat → Nat → Option (List Int)
  | 0, at_ => if at_ < words.length then none else some []
  | d + 1, at_ => if at_ < words.length then (if 0 ≤ rd words at_ ∧ rd words at_ / 4 < types.length ∧ at_ + 1 + (kindsAt types (rd words at_)).size ≤ words.length then (parseFrom types words d (at_ + 1 + (kindsAt types (rd words at_)).size)).map ((at_ : Int) :: ·) else none) else some []
def finL (acc : List Int) : Option (List Int) → List Int × Bool
  | some l => (acc ++ l, true)
  | none => ([], false)
theorem finL_cons (acc : List Int) (x : Int) (o : Option (List Int)) : finL acc (o.map (x :: ·)) = finL (acc ++ [x]) o := by
  cases o <;> simp [finL]
/-- A beginning of an object that fits. -/
def Fits (types : List ByteArray) (words : List Int) (x : Int) : Prop := ∃ n : Nat, x = n ∧ n < words.length ∧ 0 ≤ rd words n ∧ rd words n / 4 < types.length ∧ n + 1 + (kindsAt types (rd words n)).size ≤ words.length
theorem parseFrom_fits (types : List ByteArray) (words : List Int) : ∀ (d at_ : Nat) (l : List Int), parseFrom types words d at_ = some l → (∀ x ∈ l, Fits types words x ∧ (at_ : Int) ≤ x) ∧ l.Pairwise (· < ·) ∧ l.length ≤ d
  | 0, at_, l, h => by
    rw [parseFrom] at h
    split at h
    · cases h
    · obtain rfl := Option.some.inj h
      simp
  | d + 1, at_, l, h => by
    rw [parseFrom] at h
    split at h
    · rename_i hlt
      split at h
      · rename_i hc
        cases hp : parseFrom types words d (at_ + 1 + (kindsAt types (rd words at_)).size) with
        | none => rw [hp] at h; cases h
        | some m =>
          rw [hp] at h
          obtain rfl := Option.some.inj h
          obtain ⟨h1, h2, h3⟩ := parseFrom_fits types words d _ m hp
          refine ⟨fun x hx => ?_, List.Pairwise.cons (fun y hy => ?_) h2, by simp only [List.length_cons]; omega⟩
          · rcases List.mem_cons.1 hx with rfl | hx
            · exact ⟨⟨at_, rfl, hlt, hc⟩, by omega⟩
            · have := h1 x hx
              exact ⟨this.1, by omega⟩
          · have := (h1 y hy).2
            omega
      · cases h
    · obtain rfl := Option.some.inj h
      simp
theorem tdiv4 {x : Int} (h : 0 ≤ x) : wrap64 (Int.tdiv x 4) = wrap64 (x / 4) := by rw [Int.tdiv_eq_ediv_of_nonneg h]
theorem parse_size {types : List ByteArray} (ht : typesOk types = true) (h : Int) : (kindsAt types h).size ≤ 23 := by
  unfold kindsAt rdOf
  unfold typesOk at ht
  rw [Bool.and_eq_true, List.all_eq_true] at ht
  rw [List.getD_eq_getElem?_getD]
  cases hg : types[(h / 4).toNat]? with
  | none => show ByteArray.empty.size ≤ 23; decide
  | some s =>
    have := ht.2 s (List.mem_of_getElem? hg)
    unfold typeOk at this
    simp only [Bool.and_eq_true, decide_eq_true_eq] at this
    show s.size ≤ 23
    omega
theorem types_length {types : List ByteArray} (ht : typesOk types = true) : 1 ≤ types.length ∧ types.length ≤ 12 := by
  unfold typesOk at ht
  simp only [Bool.and_eq_true, decide_eq_true_eq] at ht
  exact ht.1
theorem rd_range {words : List Int} (hw : ∀ x ∈ words, -9223372036854775808 ≤ x ∧ x ≤ 9223372036854775807) {i : Nat} (h : i < words.length) : -9223372036854775808 ≤ rd words i ∧ rd words i ≤ 9223372036854775807 := by
  rw [rd_get h]
  exact hw _ (List.getElem_mem h)
theorem spec_parse_ev (types : List ByteArray) (words : List Int) (sz : Int) (ht : typesOk types = true) (hl : words.length ≤ 400) (hw : ∀ x ∈ words, -9223372036854775808 ≤ x ∧ x ≤ 9223372036854775807) :
    ∀ (d at_ : Nat) (acc : List Int), at_ ≤ words.length → words.length - at_ ≤ d → acc.length ≤ at_ → Ev (fun k => spec_l8Parse.p16 k types sz words acc (at_ : Int)) (finL acc (parseFrom types words d at_)) := by
  have htl := types_length ht
  intro d
  induction d with
  | zero =>
    intro at_ acc ha hd hacc
    rw [parseFrom, if_neg (by omega)]
    refine Ev.step (fun k => by rw [spec_l8Parse.p16]) ?_
    exact Ev.neg (by omega) (Ev.eq (by simp [finL]))
  | succ d ih =>
    intro at_ acc ha hd hacc
    rw [parseFrom]
    refine Ev.step (fun k => by rw [spec_l8Parse.p16]) ?_
    by_cases hlt : at_ < words.length
    · rw [if_pos hlt]
      have hr := rd_range hw hlt
      have hk := parse_size ht (rd words at_)
      generalize hx : rd words (at_ : Int) = x at *
      refine Ev.pos (by omega) (Ev.pos (by omega) (Ev.pos (by omega) (Ev.pos (by omega) (Ev.pos (by omega) ?_))))
      by_cases c0 : x < 0
      · rw [if_neg (by omega)]
        exact Ev.pos c0 (Ev.eq rfl)
      · rw [tdiv4 (by omega), w64 (x := x / 4) (by omega) (by omega)]
        have hkk : rdOf ByteArray.empty types (x / 4) = kindsAt types x := rfl
        rw [hkk]
        refine Ev.neg c0 ?_
        by_cases c1 : x / 4 < types.length
        · refine Ev.neg (by omega) (Ev.pos (by omega) (Ev.pos c1 ?_))
          rw [w64 (x := (at_ : Int) + 1) (by omega) (by omega), w64 (x := (at_ : Int) + 1 + ((kindsAt types x).size : Int)) (by omega) (by omega)]
          by_cases c2 : at_ + 1 + (kindsAt types x).size ≤ words.length
          · rw [if_pos ⟨by omega, c1, c2⟩, finL_cons]
            have h := ih (at_ + 1 + (kindsAt types x).size) (acc ++ [(at_ : Int)]) c2 (by omega) (by simp; omega)
            rw [show ((at_ + 1 + (kindsAt types x).size : Nat) : Int) = (at_ : Int) + 1 + ((kindsAt types x).size : Int) from by omega] at h
            exact Ev.neg (by omega) (Ev.pos (by omega) (Ev.pos (by omega) (Ev.pos c1 h)))
          · rw [if_neg (fun h => c2 h.2.2)]
            exact Ev.pos (by omega) (Ev.eq rfl)
        · rw [if_neg (fun h => c1 h.2.1)]
          exact Ev.pos (by omega) (Ev.eq rfl)
    · rw [if_neg hlt]
      exact Ev.neg (by omega) (Ev.eq (by simp [finL]))
theorem impl_starts_ev (types : List ByteArray) (words : List Int) (sz : Int) (ht : typesOk types = true) (hl : words.length ≤ 400) (hw : ∀ x ∈ words, -9223372036854775808 ≤ x ∧ x ≤ 9223372036854775807) : Ev (fun k => impl_starts.f k types sz words) (finL [] (parseFrom types words words.length 0)) := by
  have htl := types_length ht
  have s1 : impl_size_int64.f words = some (words.length : Int) := rfl
  have s2 : impl_size_string.f types = some (types.length : Int) := rfl
  have lp : ∀ (d at_ : Nat) (acc : List Int), at_ ≤ words.length → words.length - at_ ≤ d → acc.length ≤ at_ → Ev (fun k => impl_starts.p8 k types sz words acc (at_ : Int)) (finL acc (parseFrom types words d at_)) := by
    intro d
    induction d with
    | zero =>
      intro at_ acc ha hd hacc
      rw [parseFrom, if_neg (by omega)]
      refine Ev.step (fun k => by rw [impl_starts.p8]) ?_
      exact Ev.bindo s1 (Ev.neg (by omega) (Ev.eq (by simp [finL])))
    | succ d ih =>
      intro at_ acc ha hd hacc
      rw [parseFrom]
      refine Ev.step (fun k => by rw [impl_starts.p8]) ?_
      refine Ev.bindo s1 ?_
      by_cases hlt : at_ < words.length
      · rw [if_pos hlt]
        have hr := rd_range hw hlt
        have hk := parse_size ht (rd words at_)
        generalize hx : rd words (at_ : Int) = x at *
        refine Ev.pos (by omega) (Ev.pos (by omega) (Ev.pos (by omega) ?_))
        refine Ev.bindo s2 ?_
        rw [w64 (x := 4 * (types.length : Int)) (by omega) (by omega), w64 (x := 4 * (types.length : Int) - 1) (by omega) (by omega)]
        refine Ev.bindo (within_f _ _ _) ?_
        by_cases c1 : 0 ≤ x ∧ x / 4 < types.length
        · have hx1 : x ≤ 4 * (types.length : Int) - 1 := by omega
          refine Ev.pos (by simp [c1.1, hx1]) ?_
          rw [tdiv4 c1.1, w64 (x := x / 4) (by omega) (by omega)]
          have hkk : rdOf ByteArray.empty types (x / 4) = kindsAt types x := rfl
          rw [hkk]
          refine Ev.pos (by omega) (Ev.pos (by omega) (Ev.pos c1.2 (Ev.bindo s1 ?_)))
          rw [w64 (x := 1 + ((kindsAt types x).size : Int)) (by omega) (by omega), w64 (x := (at_ : Int) + (1 + ((kindsAt types x).size : Int))) (by omega) (by omega)]
          by_cases c2 : at_ + 1 + (kindsAt types x).size ≤ words.length
          · rw [if_pos ⟨c1.1, c1.2, c2⟩, finL_cons]
            have h := ih (at_ + 1 + (kindsAt types x).size) (acc ++ [(at_ : Int)]) c2 (by omega) (by simp; omega)
            rw [show ((at_ + 1 + (kindsAt types x).size : Nat) : Int) = (at_ : Int) + (1 + ((kindsAt types x).size : Int)) from by omega] at h
            exact Ev.neg (by omega) h
          · rw [if_neg (fun h => c2 h.2.2)]
            exact Ev.pos (by omega) (Ev.eq rfl)
        · rw [if_neg (fun h => c1 ⟨h.1, h.2.1⟩)]
          refine Ev.neg ?_ (Ev.eq rfl)
          simp only [Bool.and_eq_true, decide_eq_true_eq]
          omega
      · rw [if_neg hlt]
        exact Ev.neg (by omega) (Ev.eq (by simp [finL]))
  unfold impl_starts.f
  exact lp words.length 0 [] (by omega) (by omega) (by simp)
/-! ### references -/
/-- Nothing, old, or young and of one of these beginnings. -/
def refOk (st : List Int) (x : Int) : Bool := decide (refk x = 0) || decide (refk x = 1) || (decide (refk x = 2) && decide (x / 2 ∈ st))
theorem refk_pos {x : Int} (h : refk x = 2) : 1 ≤ x ∧ x ≤ 799 := by
  unfold refk at h
  split at h
  · omega
  · split at h
    · omega
    · split at h
      · omega
      · omega
theorem spec_l8Ref_ev (st : List Int) (x : Int) (hl : st.length ≤ 1099511627776) : Ev (fun k => spec_l8Ref.f k st x) (refOk st x) := by
  unfold spec_l8Ref.f refOk
  refine Ev.bindo (spec_RefKind_f x) ?_
  refine Ev.cases (fun c => Ev.eq (by simp [c])) (fun c => Ev.cases (fun c1 => Ev.eq (by simp [c1])) (fun c1 => Ev.cases (fun c2 => ?_) (fun c2 => Ev.eq (by simp [c, c1, c2]))))
  have hp := refk_pos c2
  rw [Int.tdiv_eq_ediv_of_nonneg (by omega), w64 (x := x / 2) (by omega) (by omega)]
  obtain ⟨r, hr, hm⟩ := placeIn_ev st (x / 2) hl
  refine Ev.bind hr (Ev.eq ?_)
  rcases hm with ⟨h0, hm⟩ | ⟨h0, hm⟩
  · simp [c2, h0, hm]
  · simp [c2, h0, hm]
theorem impl_isRef_ev (st : List Int) (x : Int) (hs : st.Pairwise (· < ·)) (hl : st.length ≤ 1099511627776) : Ev (fun k => impl_isRef.f k x st) (refOk st x) := by
  unfold impl_isRef.f impl_isOld.f impl_isHead.f refOk
  refine Ev.cases (fun c => Ev.eq ?_) (fun c => ?_)
  · have : refk x = 0 := by unfold refk; rw [if_pos c]
    simp [this]
  · have hn0 : ¬ refk x = 0 := by
      unfold refk
      rw [if_neg c]
      split
      · decide
      · split <;> decide
    refine Ev.bindo (a := decide (refk x = 1)) (by rw [impl_RefKind_f]; rfl) ?_
    refine Ev.cases (fun c1 => Ev.eq ?_) (fun c1 => ?_)
    · have : refk x = 1 := by simpa using c1
      simp [this]
    · have hn1 : ¬ refk x = 1 := by simpa using c1
      refine Ev.val (Ev.bind (a := decide (refk x = 2) && decide (x / 2 ∈ st)) ?_ (Ev.eq rfl)) (by simp [hn0, hn1])
      refine Ev.bindo (impl_isYoung_f x) (Ev.cases (fun c2 => ?_) (fun c2 => Ev.eq ?_))
      · have c2 := of_decide_eq_true c2
        have hp := refk_pos c2
        rw [Int.tdiv_eq_ediv_of_nonneg (by omega), w64 (x := x / 2) (by omega) (by omega)]
        obtain ⟨i, f, hev, hi, hlo, hup, ht, hf⟩ := bsearch_ev st (x / 2) hs hl
        refine Ev.bind hev (Ev.eq ?_)
        simp only [c2, decide_true, Bool.true_and]
        cases hfc : f with
        | true =>
          obtain ⟨h, e⟩ := ht hfc
          exact (decide_eq_true (e ▸ List.getElem_mem h)).symm
        | false =>
          refine (decide_eq_false (fun hm => ?_)).symm
          obtain ⟨j, hj, e⟩ := List.getElem_of_mem hm
          rcases Nat.lt_trichotomy j i with c | c | c
          · have := hlo j hj c; omega
          · subst c
            have := hf hfc hj
            omega
          · have := hup j hj c; omega
      · have : ¬ refk x = 2 := by simpa using c2
        simp [this]
/-- The references among an object's values, from one on. -/
def objB (st : List Int) (t : ByteArray) : Nat → List Int → Bool
  | _, [] => true
  | i, v :: l => if bt t (i : Int) = 114 then refOk st v && objB st t (i + 1) l else objB st t (i + 1) l
theorem impl_obj_ev (types : List ByteArray) (st vals : List Int) (tp : Int) (hs : st.Pairwise (· < ·)) (hl : st.length ≤ 1099511627776) (h0 : 0 ≤ tp) (h1 : tp < types.length) (hv : vals.length = (rdOf ByteArray.empty types tp).size) (hvl : vals.length ≤ 1099511627776) :
    ∀ (d i : Nat), vals.length - i = d → i ≤ vals.length → Ev (fun k => impl_isObject_at_impl_heads_1.p14 k types st tp vals vals (vals.length : Int) (i : Int)) (objB st (rdOf ByteArray.empty types tp) i (vals.drop i)) := by
  intro d
  induction d with
  | zero =>
    intro i hd hi
    rw [List.drop_eq_nil_of_le (by omega)]
    refine Ev.step (fun k => by rw [impl_isObject_at_impl_heads_1.p14]) ?_
    exact Ev.neg (by omega) (Ev.eq rfl)
  | succ d ih =>
    intro i hd hi
    have hlt : i < vals.length := by omega
    have ih := ih (i + 1) (by omega) (by omega)
    refine Ev.step (fun k => by rw [impl_isObject_at_impl_heads_1.p14]) ?_
    rw [rd_get hlt, show wrap64 ((i : Int) + 1) = ((i + 1 : Nat) : Int) from by rw [w64 (by omega) (by omega)]; omega, List.drop_eq_getElem_cons hlt, objB]
    refine Ev.pos (by omega) (Ev.pos (by omega) (Ev.pos (by omega) (Ev.pos h0 (Ev.pos h1 (Ev.pos (by omega) (Ev.pos (by omega) ?_))))))
    by_cases c : bt (rdOf ByteArray.empty types tp) (i : Int) = 114
    · rw [if_pos c]
      refine Ev.pos c (Ev.bind (a := refOk st vals[i]) ?_ (Ev.cases (fun c2 => ?_) (fun c2 => ?_)))
      · unfold impl_heads_1.f
        exact Ev.bind (impl_isRef_ev st _ hs hl) (Ev.eq rfl)
      · rw [c2, Bool.true_and]; exact ih
      · rw [Bool.eq_false_iff.2 c2, Bool.false_and]; exact Ev.eq rfl
    · rw [if_neg c]
      exact Ev.neg c ih
theorem isObject_ev (types : List ByteArray) (st vals : List Int) (tp : Int) (ht : types.length ≤ 1048576) (hs : st.Pairwise (· < ·)) (hl : st.length ≤ 1099511627776) (h0 : 0 ≤ tp) (h1 : tp < types.length) (hv : vals.length = (rdOf ByteArray.empty types tp).size) (hvl : vals.length ≤ 1099511627776) :
    Ev (fun k => impl_isObject_at_impl_heads_1.f k types tp vals st) (objB st (rdOf ByteArray.empty types tp) 0 vals) := by
  unfold impl_isObject_at_impl_heads_1.f
  refine Ev.bindo rfl (Ev.bindo (within_f _ _ _) ?_)
  rw [w64 (x := (types.length : Int) - 1) (by omega) (by omega)]
  refine Ev.pos (by simp; omega) (Ev.pos h0 (Ev.pos h1 (Ev.pos (by omega) ?_)))
  exact impl_obj_ev types st vals tp hs hl h0 h1 hv hvl _ 0 rfl (Nat.zero_le _)
/-- The values of the object that begins with a word. -/
def valsAt (types : List ByteArray) (words : List Int) (n : Nat) : List Int := (words.take (n + 1 + (kindsAt types (rd words n)).size)).drop (n + 1)
def nurB (types : List ByteArray) (words st : List Int) : List Int → Bool
  | [] => true
  | h :: l => objB st (kindsAt types (rd words h)) 0 (valsAt types words h.toNat) && nurB types words st l
theorem youngObject_f (types : List ByteArray) (words : List Int) (sz : Int) (n : Nat) (ht : typesOk types = true) (hl : words.length ≤ 400) (hw : ∀ x ∈ words, -9223372036854775808 ≤ x ∧ x ≤ 9223372036854775807) (h : Fits types words (n : Int)) :
    impl_youngObject.f types sz words (n : Int) = some (rd words n / 4, valsAt types words n) := by
  obtain ⟨m, e, h1, h2, h3, h4⟩ := h
  obtain rfl : m = n := by omega
  have hr := rd_range hw h1
  have hc : slices_Clone_int64.f (valsAt types words m) = some (valsAt types words m) := by
    unfold slices_Clone_int64.f
    rw [if_pos]
    unfold valsAt
    rw [List.length_drop, List.length_take]
    omega
  unfold impl_youngObject.f
  rw [tdiv4 h2, w64 (x := rd words (m : Int) / 4) (by omega) (by omega), w64 (x := (m : Int) + 1) (by omega) (by omega)]
  have hkk : rdOf ByteArray.empty types (rd words (m : Int) / 4) = kindsAt types (rd words m) := rfl
  rw [hkk, w64 (x := (m : Int) + 1 + ((kindsAt types (rd words m)).size : Int)) (by omega) (by omega)]
  rw [if_pos (by omega), if_pos (by omega), if_pos (by omega), if_pos h3, if_pos (by omega), if_pos (by omega), if_pos (by omega), if_pos (by omega)]
  rw [show ((m : Int) + 1 + ((kindsAt types (rd words m)).size : Int)).toNat = m + 1 + (kindsAt types (rd words m)).size from by omega, show ((m : Int) + 1).toNat = m + 1 from by omega]
  have e2 : (words.take (m + 1 + (kindsAt types (rd words m)).size)).drop (m + 1) = valsAt types words m := rfl
  rw [e2, hc]
  rfl
theorem vals_length {types : List ByteArray} {words : List Int} {n : Nat} (h : Fits types words (n : Int)) : (valsAt types words n).length = (kindsAt types (rd words n)).size := by
  obtain ⟨m, e, h1, h2, h3, h4⟩ := h
  obtain rfl : m = n := by omega
  unfold valsAt
  rw [List.length_drop, List.length_take]
  omega
theorem headsOk_ev (types : List ByteArray) (words st : List Int) (sz : Int) (ht : typesOk types = true) (hl : words.length ≤ 400) (hw : ∀ x ∈ words, -9223372036854775808 ≤ x ∧ x ≤ 9223372036854775807) (hs : st.Pairwise (· < ·)) (hsl : st.length ≤ 1099511627776) (hf : ∀ x ∈ st, Fits types words x) :
    ∀ (d i : Nat), st.length - i = d → i ≤ st.length → Ev (fun k => impl_heads.p24 k types sz words st (st.length : Int) (i : Int)) (if nurB types words st (st.drop i) = true then (st, true) else ([], false)) := by
  have htl := types_length ht
  intro d
  induction d with
  | zero =>
    intro i hd hi
    rw [List.drop_eq_nil_of_le (by omega)]
    refine Ev.step (fun k => by rw [impl_heads.p24]) ?_
    exact Ev.neg (by omega) (Ev.eq rfl)
  | succ d ih =>
    intro i hd hi
    have hlt : i < st.length := by omega
    have ih := ih (i + 1) (by omega) (by omega)
    have hh := hf st[i] (List.getElem_mem hlt)
    have hget : rd st (i : Int) = st[i] := rd_get hlt
    refine Ev.step (fun k => by rw [impl_heads.p24]) ?_
    rw [hget, List.drop_eq_getElem_cons hlt, nurB]
    generalize st[i] = h at *
    obtain ⟨n, rfl, h1, h2, h3, h4⟩ := id hh
    have hr := rd_range hw h1
    have hvl := vals_length hh
    have hks := parse_size ht (rd words n)
    rw [Int.toNat_natCast]
    refine Ev.pos (by omega) (Ev.pos (by omega) (Ev.pos (by omega) (Ev.bindo (youngObject_f types words sz n ht hl hw hh) ?_)))
    refine Ev.bind (isObject_ev types st (valsAt types words n) (rd words n / 4) (by omega) hs hsl (by omega) h3 hvl (by omega)) (Ev.cases (fun c => ?_) (fun c => ?_))
    · have c : objB st (kindsAt types (rd words n)) 0 (valsAt types words n) = true := c
      rw [c, Bool.true_and, show wrap64 ((i : Int) + 1) = ((i + 1 : Nat) : Int) from by rw [w64 (by omega) (by omega)]; omega]
      exact ih
    · have c : objB st (kindsAt types (rd words n)) 0 (valsAt types words n) = false := by
        have c := Bool.eq_false_iff.2 c
        exact c
      rw [c, Bool.false_and]
      exact Ev.eq rfl
/-! ### both -/
def parsed (types : List ByteArray) (sz : Int) (words : List Int) : Option (List Int) :=
  if typesOk types = true ∧ (2 ≤ sz ∧ sz ≤ 400) ∧ (words.length : Int) ≤ sz then parseFrom types words words.length 0 else none
/-- The beginnings, if the nursery is right. -/
def headsR (types : List ByteArray) (sz : Int) (words : List Int) : Option (List Int) :=
  (parsed types sz words).bind fun st => if nurB types words st st = true then some st else none
theorem parsed_facts {types : List ByteArray} {sz : Int} {words st : List Int} (h : parsed types sz words = some st) : typesOk types = true ∧ words.length ≤ 400 ∧ (∀ x ∈ st, Fits types words x) ∧ st.Pairwise (· < ·) ∧ st.length ≤ 400 := by
  unfold parsed at h
  split at h
  · rename_i c
    obtain ⟨h1, h2, h3⟩ := parseFrom_fits types words _ _ _ h
    exact ⟨c.1, by omega, fun x hx => (h1 x hx).1, h2, by omega⟩
  · cases h
theorem spec_l8Parse_ev (types : List ByteArray) (sz : Int) (words : List Int) (hl : types.length ≤ 1048576) (hs : ∀ x ∈ types, x.size ≤ 1048576) (hw : ∀ x ∈ words, -9223372036854775808 ≤ x ∧ x ≤ 9223372036854775807) : Ev (fun k => spec_l8Parse.f k types sz words) (finL [] (parsed types sz words)) := by
  unfold spec_l8Parse.f parsed
  refine Ev.bind (spec_TypesOk_ev types hl hs) ?_
  refine Ev.cases (fun c => ?_) (fun c => ?_)
  · refine Ev.bindo (l1In_f _ _ _) ?_
    refine Ev.cases (fun c1 => ?_) (fun c1 => ?_)
    · have c1 : 2 ≤ sz ∧ sz ≤ 400 := by simpa using c1
      by_cases c2 : (words.length : Int) ≤ sz
      · rw [if_pos ⟨c, c1, c2⟩]
        refine Ev.neg (by omega) ?_
        exact spec_parse_ev types words sz c (by omega) hw words.length 0 [] (by omega) (by omega) (by simp)
      · rw [if_neg (fun h => c2 h.2.2)]
        exact Ev.pos (by omega) (Ev.eq rfl)
    · rw [if_neg (fun h => c1 (by simpa using h.2.1))]
      exact Ev.eq rfl
  · rw [if_neg (fun h => c h.1)]
    exact Ev.eq rfl
theorem impl_heads_ev (types : List ByteArray) (sz : Int) (words : List Int) (hs : ∀ x ∈ types, x.size ≤ 1048576) (hw : ∀ x ∈ words, -9223372036854775808 ≤ x ∧ x ≤ 9223372036854775807) : Ev (fun k => impl_heads.f k types sz words) (finL [] (headsR types sz words)) := by
  unfold impl_heads.f headsR
  refine Ev.bind (impl_TypesOk_ev types hs) ?_
  by_cases c : typesOk types = true
  · refine Ev.pos c (Ev.bindo (within_f _ _ _) ?_)
    by_cases c1 : 2 ≤ sz ∧ sz ≤ 400
    · refine Ev.pos (by simp; omega) (Ev.bindo rfl ?_)
      by_cases c2 : (words.length : Int) ≤ sz
      · refine Ev.neg (by omega) (Ev.bind (impl_starts_ev types words sz c (by omega) hw) ?_)
        have e : parsed types sz words = parseFrom types words words.length 0 := by rw [parsed, if_pos ⟨c, c1, c2⟩]
        have hfacts := fun st h => @parsed_facts types sz words st h
        rw [e] at *
        cases hp : parseFrom types words words.length 0 with
        | none => exact Ev.neg (by simp [finL]) (Ev.eq rfl)
        | some st =>
          obtain ⟨_, _, hfit, hsrt, hlen⟩ := hfacts st hp
          simp only [finL, List.nil_append, Option.bind_some]
          refine Ev.pos trivial (Ev.val (headsOk_ev types words st sz c (by omega) hw hsrt (by omega) hfit _ 0 rfl (Nat.zero_le _)) ?_)
          rw [List.drop_zero]
          split <;> rfl
      · rw [parsed, if_neg (fun h => c2 h.2.2)]
        exact Ev.pos (by omega) (Ev.eq rfl)
    · rw [parsed, if_neg (fun h => c1 h.2.1)]
      exact Ev.neg (by simp; omega) (Ev.eq rfl)
  · rw [parsed, if_neg (fun h => c h.1)]
    exact Ev.neg c (Ev.eq rfl)
theorem spec_NurseryOk_ev (types : List ByteArray) (sz : Int) (words : List Int) (hl : types.length ≤ 1048576) (hs : ∀ x ∈ types, x.size ≤ 1048576) (hw : ∀ x ∈ words, -9223372036854775808 ≤ x ∧ x ≤ 9223372036854775807) : Ev (fun k => spec_NurseryOk.f k types sz words) (headsR types sz words).isSome := by
  unfold spec_NurseryOk.f headsR
  refine Ev.bind (spec_l8Parse_ev types sz words hl hs hw) ?_
  cases hp : parsed types sz words with
  | none => exact Ev.neg (by simp [finL]) (Ev.eq rfl)
  | some st =>
    obtain ⟨ht, hwl, hfit, hsrt, hlen⟩ := parsed_facts hp
    have htl := types_length ht
    simp only [finL, List.nil_append, Option.bind_some]
    refine Ev.pos trivial ?_
    have lp : ∀ (d i : Nat), st.length - i = d → i ≤ st.length → Ev (fun k => spec_NurseryOk.p16 k types sz words st (i : Int)) (nurB types words st (st.drop i)) := by
      intro d
      induction d with
      | zero =>
        intro i hd hi
        rw [List.drop_eq_nil_of_le (by omega)]
        refine Ev.step (fun k => by rw [spec_NurseryOk.p16]) ?_
        exact Ev.neg (by omega) (Ev.eq rfl)
      | succ d ih =>
        intro i hd hi
        have hlt : i < st.length := by omega
        have ih := ih (i + 1) (by omega) (by omega)
        have hh := hfit st[i] (List.getElem_mem hlt)
        have hget : rd st (i : Int) = st[i] := rd_get hlt
        rw [List.drop_eq_getElem_cons hlt, nurB]
        generalize st[i] = h at *
        obtain ⟨n, rfl, h1, h2, h3, h4⟩ := id hh
        have hr := rd_range hw h1
        have hvl := vals_length hh
        rw [Int.toNat_natCast]
        refine Ev.step (fun k => by rw [spec_NurseryOk.p16]) ?_
        rw [hget, tdiv4 h2, w64 (x := rd words (n : Int) / 4) (by omega) (by omega)]
        have hkk : rdOf ByteArray.empty types (rd words (n : Int) / 4) = kindsAt types (rd words n) := rfl
        rw [hkk]
        refine Ev.pos (by omega) (Ev.pos (by omega) (Ev.pos (by omega) (Ev.pos (by omega) (Ev.pos (by omega) (Ev.pos (by omega) (Ev.pos h3 ?_))))))
        have lq : ∀ (e j : Nat), (kindsAt types (rd words n)).size - j = e → j ≤ (kindsAt types (rd words n)).size → Ev (fun k => spec_NurseryOk.p30 k types sz words st (i : Int) (kindsAt types (rd words n)) (j : Int)) (objB st (kindsAt types (rd words n)) j ((valsAt types words n).drop j) && nurB types words st (st.drop (i + 1))) := by
          intro e
          induction e with
          | zero =>
            intro j he hj
            rw [List.drop_eq_nil_of_le (by omega)]
            simp only [objB, Bool.true_and]
            refine Ev.step (fun k => by rw [spec_NurseryOk.p30]) ?_
            rw [show wrap64 ((i : Int) + 1) = ((i + 1 : Nat) : Int) from by rw [w64 (by omega) (by omega)]; omega]
            exact Ev.neg (by omega) ih
          | succ e ihe =>
            intro j he hj
            have ihe := ihe (j + 1) (by omega) (by omega)
            have hjl : j < (valsAt types words n).length := by omega
            have hval : rd words (((n + 1 + j : Nat) : Int)) = (valsAt types words n)[j] := by
              rw [rd_get (by omega)]
              simp only [valsAt, List.getElem_drop, List.getElem_take]
            refine Ev.step (fun k => by rw [spec_NurseryOk.p30]) ?_
            rw [hget, w64 (x := (n : Int) + 1) (by omega) (by omega), w64 (x := (n : Int) + 1 + (j : Int)) (by omega) (by omega), show (n : Int) + 1 + (j : Int) = ((n + 1 + j : Nat) : Int) from by omega, hval,
              show wrap64 ((j : Int) + 1) = ((j + 1 : Nat) : Int) from by rw [w64 (by omega) (by omega)]; omega, List.drop_eq_getElem_cons hjl, objB]
            refine Ev.pos (by omega) (Ev.pos (by omega) (Ev.pos (by omega) ?_))
            by_cases c : bt (kindsAt types (rd words n)) (j : Int) = 114
            · rw [if_pos c]
              refine Ev.pos c (Ev.pos (by omega) (Ev.pos (by omega) (Ev.pos (by omega) (Ev.pos (by omega) (Ev.bind (spec_l8Ref_ev st _ (by omega)) (Ev.cases (fun c2 => ?_) (fun c2 => ?_)))))))
              · rw [c2, Bool.true_and]; exact ihe
              · rw [Bool.eq_false_iff.2 c2, Bool.false_and, Bool.false_and]; exact Ev.eq rfl
            · rw [if_neg c]
              exact Ev.neg c ihe
        exact lq _ 0 rfl (by omega)
    have h := lp _ 0 rfl (by omega)
    rw [List.drop_zero] at h
    refine Ev.val h ?_
    split <;> simp_all
end Go.Proofs.YtgfeafcgpeclcaaDoor.Abs.Pu
namespace Go.Proofs.YtgfeafcgpeclcaaDoor.Abs.Pu
open Go Go.RowKit
set_option linter.unusedVariables false
set_option linter.unusedSectionVars false
set_option linter.unusedSimpArgs false
theorem headsR_some {types : List ByteArray} {sz : Int} {words st : List Int} (h : headsR types sz words = some st) : parsed types sz words = some st ∧ nurB types words st st = true := by
  unfold headsR at h
  obtain ⟨m, hm, h⟩ := Option.bind_eq_some_iff.1 h
  split at h
  · rename_i c
    obtain rfl := Option.some.inj h
    exact ⟨hm, c⟩
  · cases h
theorem headsR_length (types : List ByteArray) (sz : Int) (words : List Int) : ((headsR types sz words).getD []).length ≤ 400 := by
  cases h : headsR types sz words with
  | none => simp
  | some st => exact (parsed_facts (headsR_some h).1).2.2.2.2
theorem spec_Starts_ev (types : List ByteArray) (sz : Int) (words : List Int) (hl : types.length ≤ 1048576) (hs : ∀ x ∈ types, x.size ≤ 1048576) (hw : ∀ x ∈ words, -9223372036854775808 ≤ x ∧ x ≤ 9223372036854775807) : Ev (fun k => spec_Starts.f k types sz words) ((headsR types sz words).getD []) := by
  unfold spec_Starts.f
  refine Ev.bind (spec_NurseryOk_ev types sz words hl hs hw) ?_
  cases h : headsR types sz words with
  | none => exact Ev.neg (by simp) (Ev.eq rfl)
  | some st =>
    have hp := spec_l8Parse_ev types sz words hl hs hw
    rw [(headsR_some h).1] at hp
    exact Ev.pos rfl (Ev.bind hp (Ev.eq rfl))
theorem impl_Starts_ev (types : List ByteArray) (sz : Int) (words : List Int) (hs : ∀ x ∈ types, x.size ≤ 1048576) (hw : ∀ x ∈ words, -9223372036854775808 ≤ x ∧ x ≤ 9223372036854775807) : Ev (fun k => impl_Starts.f k types sz words) ((headsR types sz words).getD []) := by
  unfold impl_Starts.f
  refine Ev.bind (impl_heads_ev types sz words hs hw) (Ev.eq ?_)
  cases headsR types sz words <;> rfl
end Go.Proofs.YtgfeafcgpeclcaaDoor.Abs.Pu
namespace Go.Proofs.YtgfeafcgpeclcaaDoor.Abs.Pu
open Go Go.RowKit
set_option linter.unusedVariables false
set_option linter.unusedSectionVars false
set_option linter.unusedSimpArgs false
def isHeadB (st : List Int) (x : Int) : Bool := decide (refk x = 2) && decide (x / 2 ∈ st)
theorem impl_isHead_ev (st : List Int) (x : Int) (hs : st.Pairwise (· < ·)) (hl : st.length ≤ 1099511627776) : Ev (fun k => impl_isHead.f k x st) (isHeadB st x) := by
  unfold impl_isHead.f isHeadB
  refine Ev.bindo (impl_isYoung_f x) (Ev.cases (fun c2 => ?_) (fun c2 => Ev.eq ?_))
  · have c2 := of_decide_eq_true c2
    have hp := refk_pos c2
    rw [Int.tdiv_eq_ediv_of_nonneg (by omega), w64 (x := x / 2) (by omega) (by omega)]
    obtain ⟨i, f, hev, hi, hlo, hup, ht, hf⟩ := bsearch_ev st (x / 2) hs hl
    refine Ev.bind hev (Ev.eq ?_)
    simp only [c2, decide_true, Bool.true_and]
    cases hfc : f with
    | true =>
      obtain ⟨h, e⟩ := ht hfc
      exact (decide_eq_true (e ▸ List.getElem_mem h)).symm
    | false =>
      refine (decide_eq_false (fun hm => ?_)).symm
      obtain ⟨j, hj, e⟩ := List.getElem_of_mem hm
      rcases Nat.lt_trichotomy j i with c | c | c
      · have := hlo j hj c; omega
      · subst c
        have := hf hfc hj
        omega
      · have := hup j hj c; omega
  · have : ¬ refk x = 2 := by simpa using c2
    simp [this]
def youngR (types : List ByteArray) (sz : Int) (words : List Int) (ref : Int) : Int × List Int × Bool :=
  match headsR types sz words with
  | some st => if isHeadB st ref = true then (rd words (ref / 2) / 4, valsAt types words (ref / 2).toNat, true) else (0, [], false)
  | none => (0, [], false)
theorem l8Obj_f (types : List ByteArray) (words : List Int) (sz : Int) (n : Nat) (ht : typesOk types = true) (hl : words.length ≤ 400) (hw : ∀ x ∈ words, -9223372036854775808 ≤ x ∧ x ≤ 9223372036854775807) (h : Fits types words (n : Int)) :
    spec_l8Obj.f types sz words (n : Int) = some (rd words n / 4, valsAt types words n) := by
  have hvl := vals_length h
  obtain ⟨m, e, h1, h2, h3, h4⟩ := h
  obtain rfl : m = n := by omega
  have hr := rd_range hw h1
  have hk := parse_size ht (rd words m)
  unfold spec_l8Obj.f
  rw [tdiv4 h2, w64 (x := rd words (m : Int) / 4) (by omega) (by omega), w64 (x := (m : Int) + 1) (by omega) (by omega)]
  have hkk : rdOf ByteArray.empty types (rd words (m : Int) / 4) = kindsAt types (rd words m) := rfl
  rw [hkk, w64 (x := (m : Int) + 1 + ((kindsAt types (rd words m)).size : Int)) (by omega) (by omega)]
  rw [show ((m : Int) + 1 + ((kindsAt types (rd words m)).size : Int)).toNat = m + 1 + (kindsAt types (rd words m)).size from by omega, show ((m : Int) + 1).toNat = m + 1 from by omega]
  have e2 : (words.take (m + 1 + (kindsAt types (rd words m)).size)).drop (m + 1) = valsAt types words m := rfl
  rw [e2, if_pos (by omega), if_pos (by omega), if_pos (by omega), if_pos h3, if_pos (by omega), if_pos (by omega), if_pos (by omega), if_pos (by omega), if_pos (by omega)]
  rfl
theorem head_fits {types : List ByteArray} {words st : List Int} {ref : Int} (hfit : ∀ x ∈ st, Fits types words x) (h : isHeadB st ref = true) : refk ref = 2 ∧ ref / 2 ∈ st ∧ Fits types words (((ref / 2).toNat : Nat) : Int) ∧ ref / 2 = (((ref / 2).toNat : Nat) : Int) := by
  unfold isHeadB at h
  simp only [Bool.and_eq_true, decide_eq_true_eq] at h
  have hf := hfit _ h.2
  obtain ⟨n, e, _⟩ := id hf
  refine ⟨h.1, h.2, ?_, by omega⟩
  rw [show (((ref / 2).toNat : Nat) : Int) = ref / 2 from by omega]
  exact hf
theorem impl_YoungObject_ev (types : List ByteArray) (sz : Int) (words : List Int) (ref : Int) (hs : ∀ x ∈ types, x.size ≤ 1048576) (hw : ∀ x ∈ words, -9223372036854775808 ≤ x ∧ x ≤ 9223372036854775807) : Ev (fun k => impl_YoungObject.f k types sz words ref) (youngR types sz words ref) := by
  unfold impl_YoungObject.f youngR
  refine Ev.bind (impl_heads_ev types sz words hs hw) ?_
  cases h : headsR types sz words with
  | none => exact Ev.neg (by simp [finL]) (Ev.eq rfl)
  | some st =>
    obtain ⟨ht, hwl, hfit, hsrt, hlen⟩ := parsed_facts (headsR_some h).1
    simp only [finL, List.nil_append]
    refine Ev.pos trivial (Ev.bind (impl_isHead_ev st ref hsrt (by omega)) (Ev.cases (fun c => ?_) (fun c => ?_)))
    · obtain ⟨hr, hm, hf, he⟩ := head_fits hfit c
      have hp := refk_pos hr
      rw [if_pos c, Int.tdiv_eq_ediv_of_nonneg (by omega), w64 (x := ref / 2) (by omega) (by omega), he]
      refine Ev.bindo (youngObject_f types words sz _ ht hwl hw hf) (Ev.eq ?_)
      rw [Int.toNat_natCast]
    · rw [if_neg c]
      exact Ev.eq rfl
theorem spec_YoungObject_ev (types : List ByteArray) (sz : Int) (words : List Int) (ref : Int) (hl : types.length ≤ 1048576) (hs : ∀ x ∈ types, x.size ≤ 1048576) (hw : ∀ x ∈ words, -9223372036854775808 ≤ x ∧ x ≤ 9223372036854775807) : Ev (fun k => spec_YoungObject.f k types sz words ref) (youngR types sz words ref) := by
  unfold spec_YoungObject.f youngR
  refine Ev.bindo (spec_RefKind_f ref) (Ev.cases (fun c => ?_) (fun c => ?_))
  · have hp := refk_pos c
    rw [Int.tdiv_eq_ediv_of_nonneg (by omega), w64 (x := ref / 2) (by omega) (by omega)]
    refine Ev.bind (spec_Starts_ev types sz words hl hs hw) ?_
    have hlen := headsR_length types sz words
    obtain ⟨r, hr, hm⟩ := placeIn_ev ((headsR types sz words).getD []) (ref / 2) (by omega)
    refine Ev.bind hr ?_
    cases h : headsR types sz words with
    | none =>
      rw [h] at hm
      simp only [Option.getD_none, List.not_mem_nil, and_false, false_or, not_false_eq_true, and_true] at hm
      exact Ev.pos (by omega) (Ev.eq rfl)
    | some st =>
      rw [h] at hm
      obtain ⟨ht, hwl, hfit, hsrt, hlen2⟩ := parsed_facts (headsR_some h).1
      rcases hm with ⟨h0, hm⟩ | ⟨h0, hm⟩
      · have hB : isHeadB st ref = true := by unfold isHeadB; simp [c]; exact hm
        obtain ⟨_, _, hf, he⟩ := head_fits hfit hB
        simp only [hB, if_true]
        refine Ev.neg (by omega) ?_
        rw [he]
        refine Ev.bindo (l8Obj_f types words sz _ ht hwl hw hf) (Ev.eq ?_)
        rw [Int.toNat_natCast]
      · have hB : isHeadB st ref = false := by unfold isHeadB; simp [c]; exact hm
        simp only [hB]
        exact Ev.pos (by omega) (Ev.eq rfl)
  · refine Ev.eq ?_
    have hB : ∀ st, isHeadB st ref = false := fun st => by unfold isHeadB; simp [c]
    split
    · simp [hB]
    · rfl
theorem youngR_length (types : List ByteArray) (sz : Int) (words : List Int) (ref : Int) : (youngR types sz words ref).2.1.length ≤ 400 := by
  unfold youngR
  split
  · rename_i st h
    obtain ⟨ht, hwl, hfit, hsrt, hlen⟩ := parsed_facts (headsR_some h).1
    split
    · unfold valsAt
      simp only [List.length_drop, List.length_take]
      omega
    · simp
  · simp
end Go.Proofs.YtgfeafcgpeclcaaDoor.Abs.Pu
namespace Go.Proofs.YtgfeafcgpeclcaaDoor.Abs.Pu
open Go Go.RowKit
set_option linter.unusedVariables false
set_option linter.unusedSectionVars false
set_option linter.unusedSimpArgs false
theorem nodup_le : ∀ (l m : List Int), l.Nodup → (∀ x ∈ l, x ∈ m) → l.length ≤ m.length
  | [], m, _, _ => Nat.zero_le _
  | x :: l, m, hn, h => by
    have hx := h x (by simp)
    rw [List.nodup_cons] at hn
    have h1 := nodup_le l (m.erase x) hn.2 (fun y hy => by
      have hne : y ≠ x := fun e => hn.1 (e ▸ hy)
      exact (List.mem_erase_of_ne hne).2 (h y (by simp [hy])))
    have h2 := List.length_erase_of_mem hx
    have h3 := List.length_pos_of_mem hx
    simp only [List.length_cons]
    omega
def seeP (out : List Int) (x : Int) : List Int := if refk x = 2 ∧ x ∉ out then out ++ [x] else out
def valsP (t : ByteArray) : Nat → List Int → List Int → List Int
  | _, [], out => out
  | i, x :: l, out => if bt t (i : Int) = 114 then valsP t (i + 1) l (seeP out x) else valsP t (i + 1) l out
def closeP (types : List ByteArray) (words : List Int) : Nat → Nat → List Int → List Int
  | 0, _, out => out
  | d + 1, i, out => if i < out.length then closeP types words d (i + 1) (valsP (kindsAt types (rd words (rd out (i : Int) / 2))) 0 (valsAt types words (rd out (i : Int) / 2).toNat) out) else out
structure Inv (st out : List Int) : Prop where
  nd : out.Nodup
  ok : ∀ x ∈ out, refk x = 2 ∧ x / 2 ∈ st
theorem refk_odd {x : Int} (h : refk x = 2) : 1 ≤ x ∧ x ≤ 799 ∧ x % 2 = 1 := by
  unfold refk at h
  split at h
  · omega
  · split at h
    · omega
    · split at h
      · omega
      · omega
theorem Inv.nil (st : List Int) : Inv st [] := ⟨by simp, fun x hx => by cases hx⟩
theorem Inv.len {st out : List Int} (h : Inv st out) : out.length ≤ st.length := by
  have h1 := nodup_le (out.map (· / 2)) st ?_ (fun x hx => by
    obtain ⟨y, hy, rfl⟩ := List.mem_map.1 hx
    exact (h.ok y hy).2)
  · simpa using h1
  · rw [List.Nodup, List.pairwise_map]
    refine List.Pairwise.imp_of_mem (fun ha hb hne e => hne ?_) h.nd
    have h1 := refk_odd (h.ok _ ha).1
    have h2 := refk_odd (h.ok _ hb).1
    omega
theorem Inv.see {st out : List Int} {x : Int} (h : Inv st out) (hx : refOk st x = true) : Inv st (seeP out x) := by
  unfold seeP
  split
  · rename_i c
    refine ⟨List.nodup_append.2 ⟨h.nd, by simp, fun a ha b hb => by
      simp only [List.mem_singleton] at hb
      subst hb
      exact fun e => c.2 (e ▸ ha)⟩, fun y hy => ?_⟩
    rcases List.mem_append.1 hy with hy | hy
    · exact h.ok y hy
    · simp only [List.mem_singleton] at hy
      subst hy
      refine ⟨c.1, ?_⟩
      unfold refOk at hx
      simp only [c.1, Bool.or_eq_true, Bool.and_eq_true, decide_eq_true_eq] at hx
      rcases hx with (hx | hx) | hx
      · omega
      · omega
      · exact hx.2
  · exact h
theorem see_length (out : List Int) (x : Int) : out.length ≤ (seeP out x).length := by
  unfold seeP
  split
  · simp
  · exact Nat.le_refl _
theorem valsP_inv {st : List Int} {t : ByteArray} : ∀ (l : List Int) (i : Nat) (out : List Int), Inv st out → objB st t i l = true → Inv st (valsP t i l out) ∧ out.length ≤ (valsP t i l out).length
  | [], i, out, h, _ => ⟨h, Nat.le_refl _⟩
  | x :: l, i, out, h, hb => by
    rw [objB] at hb
    rw [valsP]
    split
    · rename_i c
      rw [if_pos c, Bool.and_eq_true] at hb
      have h1 := valsP_inv l (i + 1) (seeP out x) (h.see hb.1) hb.2
      have h2 := see_length out x
      exact ⟨h1.1, by omega⟩
    · rename_i c
      rw [if_neg c] at hb
      exact valsP_inv l (i + 1) out h hb
theorem nurB_mem {types : List ByteArray} {words st : List Int} : ∀ {l : List Int}, nurB types words st l = true → ∀ h ∈ l, objB st (kindsAt types (rd words h)) 0 (valsAt types words h.toNat) = true
  | [], _, h, hm => by cases hm
  | x :: l, hn, h, hm => by
    rw [nurB, Bool.and_eq_true] at hn
    rcases List.mem_cons.1 hm with rfl | hm
    · exact hn.1
    · exact nurB_mem hn.2 h hm
/-- What stands at a place of the list. -/
theorem out_at {st out : List Int} {types : List ByteArray} {words : List Int} (h : Inv st out) (hfit : ∀ x ∈ st, Fits types words x) {i : Nat} (hi : i < out.length) :
    ∃ n : Nat, rd out (i : Int) / 2 = n ∧ (n : Int) ∈ st ∧ Fits types words (n : Int) ∧ wrap64 (Int.tdiv (rd out (i : Int)) 2) = n ∧ refk (rd out (i : Int)) = 2 := by
  have hm := h.ok (rd out (i : Int)) (by rw [rd_get hi]; exact List.getElem_mem hi)
  have hp := refk_pos hm.1
  obtain ⟨n, hn⟩ := Int.eq_ofNat_of_zero_le (show 0 ≤ rd out (i : Int) / 2 by omega)
  have hn' : rd out (i : Int) / 2 = (n : Int) := hn
  refine ⟨n, hn', hn' ▸ hm.2, hfit _ (hn' ▸ hm.2), ?_, hm.1⟩
  rw [Int.tdiv_eq_ediv_of_nonneg (by omega), w64 (by omega) (by omega), hn']
theorem closeP_inv {st : List Int} {types : List ByteArray} {words : List Int} (hfit : ∀ x ∈ st, Fits types words x) (hn : nurB types words st st = true) : ∀ (d i : Nat) (out : List Int), Inv st out → Inv st (closeP types words d i out)
  | 0, i, out, h => h
  | d + 1, i, out, h => by
    rw [closeP]
    split
    · rename_i c
      obtain ⟨n, e, hm, hf, _, _⟩ := out_at h hfit c
      rw [e, Int.toNat_natCast]
      exact closeP_inv hfit hn d (i + 1) _ (valsP_inv _ 0 out h (nurB_mem hn _ hm)).1
    · exact h
theorem seeAll_inv {st : List Int} : ∀ (l out : List Int), Inv st out → (∀ x ∈ l, refOk st x = true) → Inv st (l.foldl seeP out)
  | [], out, h, _ => h
  | x :: l, out, h, hl => seeAll_inv l (seeP out x) (h.see (hl x (by simp))) (fun y hy => hl y (by simp [hy]))
/-! ### the program -/
/-- What the map says: which references have been seen. -/
def MapIs (f : Int → Option Bool) (out : List Int) : Prop := ∀ x, (f x).getD false = decide (x ∈ out)
theorem MapIs.nil : MapIs (fun _ => none) [] := fun x => by simp
theorem see_f {f : Int → Option Bool} {out : List Int} (hm : MapIs f out) (hl : out.length ≤ 400) (x : Int) : ∃ f', impl_youngClosure_1.f x f out = some (f', seeP out x) ∧ MapIs f' (seeP out x) := by
  unfold impl_youngClosure_1.f seeP
  rw [impl_isYoung_f, Option.bind_some, hm x]
  by_cases c : refk x = 2
  · by_cases c2 : x ∈ out
    · exact ⟨f, by simp [c, c2], by rw [if_neg (fun h => h.2 c2)]; exact hm⟩
    · refine ⟨mput f x true, by rw [if_pos (by simp [c]), if_neg (by simp [c2]), if_pos (by omega), if_pos ⟨c, c2⟩], ?_⟩
      rw [if_pos ⟨c, c2⟩]
      intro y
      unfold mput
      by_cases e : y = x
      · simp [e]
      · rw [if_neg e, hm y]
        simp [e]
  · exact ⟨f, by simp [c], by rw [if_neg (fun h => c h.1)]; exact hm⟩
def closureP (types : List ByteArray) (words roots : List Int) : List Int := closeP types words 401 0 (roots.foldl seeP [])
set_option maxHeartbeats 1000000 in
theorem impl_youngClosure_ev {types : List ByteArray} {sz : Int} {words st roots : List Int} (hst : headsR types sz words = some st) (hw : ∀ x ∈ words, -9223372036854775808 ≤ x ∧ x ≤ 9223372036854775807) (hr : ∀ x ∈ roots, refOk st x = true) (hrl : roots.length ≤ 1099511627776) :
    Ev (fun k => impl_youngClosure.f k types sz words roots) (closureP types words roots) := by
  obtain ⟨hp, hn⟩ := headsR_some hst
  obtain ⟨ht, hwl, hfit, hsrt, hsl⟩ := parsed_facts hp
  have l1 : ∀ (n i : Nat) (out : List Int) (f : Int → Option Bool), Inv st out → MapIs f out → 401 ≤ i + n → i ≤ 401 → Ev (fun k => impl_youngClosure.p29 k types sz words out f (i : Int)) (closeP types words n i out) := by
    intro n
    induction n with
    | zero =>
      intro i out f h hf hi hi2
      have hlen := h.len
      refine Ev.step (fun k => by rw [impl_youngClosure.p29]) ?_
      exact Ev.neg (by omega) (Ev.eq rfl)
    | succ n ih =>
      intro i out f h hmf hi hi2
      have hlen := h.len
      refine Ev.step (fun k => by rw [impl_youngClosure.p29]) ?_
      rw [closeP]
      by_cases c : i < out.length
      · obtain ⟨m, e, hm, hf, hw2, _⟩ := out_at h hfit c
        have hob := nurB_mem hn _ hm
        rw [Int.toNat_natCast] at hob
        have hvl := vals_length hf
        obtain ⟨m', e', h1, h2, h3, h4⟩ := id hf
        obtain rfl : m' = m := by omega
        rw [if_pos c, hw2, e, Int.toNat_natCast]
        refine Ev.pos (by omega) (Ev.pos (by omega) (Ev.pos (by omega) (Ev.bindo (youngObject_f types words sz m' ht hwl hw hf) ?_)))
        have hkk : rdOf ByteArray.empty types (rd words (m' : Int) / 4) = kindsAt types (rd words m') := rfl
        simp only []
        have hks := parse_size ht (rd words (m' : Int))
        generalize kindsAt types (rd words (m' : Int)) = kk at *
        generalize valsAt types words m' = vals at *
        have l2 : ∀ (q j : Nat) (out : List Int) (f : Int → Option Bool), vals.length - j = q → j ≤ vals.length → Inv st out → MapIs f out → objB st kk j (vals.drop j) = true → Ev (fun k => impl_youngClosure.p43 k types sz words out f (i : Int) (rd words (m' : Int) / 4) vals (vals.length : Int) (j : Int)) (closeP types words n (i + 1) (valsP kk j (vals.drop j) out)) := by
          intro q
          induction q with
          | zero =>
            intro j out f hq hj h hmf hb
            rw [List.drop_eq_nil_of_le (by omega), valsP]
            refine Ev.step (fun k => by rw [impl_youngClosure.p43]) ?_
            refine Ev.neg (by omega) ?_
            rw [show wrap64 ((i : Int) + 1) = ((i + 1 : Nat) : Int) from by rw [w64 (by omega) (by omega)]; omega]
            exact ih (i + 1) out f h hmf (by omega) (by omega)
          | succ q ihq =>
            intro j out f hq hj h hmf hb
            have hlt : j < vals.length := by omega
            have hlen := h.len
            rw [List.drop_eq_getElem_cons hlt, objB] at hb
            rw [List.drop_eq_getElem_cons hlt, valsP]
            refine Ev.step (fun k => by rw [impl_youngClosure.p43]) ?_
            rw [hkk, rd_get hlt, show wrap64 ((j : Int) + 1) = ((j + 1 : Nat) : Int) from by rw [w64 (by omega) (by omega)]; omega]
            generalize vals[j] = x at *
            refine Ev.pos (by omega) (Ev.pos (by omega) (Ev.pos (by omega) (Ev.pos (by omega) (Ev.pos h3 (Ev.pos (by omega) (Ev.pos (by omega) ?_))))))
            by_cases c1 : bt kk (j : Int) = 114
            · rw [if_pos c1, Bool.and_eq_true] at hb
              rw [if_pos c1]
              obtain ⟨f', ef, hmf'⟩ := see_f hmf (by omega) x
              exact Ev.pos c1 (Ev.bindo ef (ihq (j + 1) _ f' (by omega) (by omega) (h.see hb.1) hmf' hb.2))
            · rw [if_neg c1] at hb
              rw [if_neg c1]
              exact Ev.neg c1 (ihq (j + 1) out f (by omega) (by omega) h hmf hb)
        have hz := l2 _ 0 out f rfl (by omega) h hmf (by rw [List.drop_zero]; exact hob)
        rw [List.drop_zero] at hz
        exact hz
      · rw [if_neg c]
        exact Ev.neg (by omega) (Ev.eq rfl)
  have l0 : ∀ (q j : Nat) (out : List Int) (f : Int → Option Bool), roots.length - j = q → j ≤ roots.length → Inv st out → MapIs f out → Ev (fun k => impl_youngClosure.p12 k types sz words out f roots (roots.length : Int) (j : Int)) (closeP types words 401 0 ((roots.drop j).foldl seeP out)) := by
    intro q
    induction q with
    | zero =>
      intro j out f hq hj h hmf
      rw [List.drop_eq_nil_of_le (by omega), List.foldl_nil]
      refine Ev.step (fun k => by rw [impl_youngClosure.p12]) ?_
      exact Ev.neg (by omega) (l1 401 0 out f h hmf (by omega) (by omega))
    | succ q ihq =>
      intro j out f hq hj h hmf
      have hlt : j < roots.length := by omega
      have hlen := h.len
      have hx := hr roots[j] (List.getElem_mem hlt)
      rw [List.drop_eq_getElem_cons hlt, List.foldl_cons]
      refine Ev.step (fun k => by rw [impl_youngClosure.p12]) ?_
      rw [rd_get hlt, show wrap64 ((j : Int) + 1) = ((j + 1 : Nat) : Int) from by rw [w64 (by omega) (by omega)]; omega]
      generalize roots[j] = x at *
      obtain ⟨f', ef, hmf'⟩ := see_f hmf (by omega) x
      exact Ev.pos (by omega) (Ev.pos (by omega) (Ev.pos (by omega) (Ev.bindo ef (ihq (j + 1) _ f' (by omega) (by omega) (h.see hx) hmf'))))
  unfold impl_youngClosure.f
  have h := l0 _ 0 [] _ rfl (by omega) (Inv.nil st) MapIs.nil
  rw [List.drop_zero] at h
  exact h
def closR (types : List ByteArray) (sz : Int) (words roots : List Int) : List Int × Bool :=
  match headsR types sz words with
  | some st => if roots.length ≤ 400 then (if roots.all (refOk st) = true then (closureP types words roots, true) else ([], false)) else ([], false)
  | none => ([], false)
theorem impl_YoungClosure_ev (types : List ByteArray) (sz : Int) (words roots : List Int) (hs : ∀ x ∈ types, x.size ≤ 1048576) (hw : ∀ x ∈ words, -9223372036854775808 ≤ x ∧ x ≤ 9223372036854775807) : Ev (fun k => impl_YoungClosure.f k types sz words roots) (closR types sz words roots) := by
  unfold impl_YoungClosure.f closR
  refine Ev.bind (impl_heads_ev types sz words hs hw) ?_
  cases h : headsR types sz words with
  | none => exact Ev.neg (by simp [finL]) (Ev.eq rfl)
  | some st =>
    obtain ⟨ht, hwl, hfit, hsrt, hlen⟩ := parsed_facts (headsR_some h).1
    simp only [finL, List.nil_append]
    by_cases c : roots.length ≤ 400
    · rw [if_pos c]
      refine Ev.pos trivial (Ev.neg (by omega) ?_)
      refine Ev.bind (a := roots.any fun x => !refOk st x) ?_ ?_
      · unfold slices_ContainsFunc_int64_at_impl_YoungClosure_1.f slices_IndexFunc_int64_at_impl_YoungClosure_1.f
        refine contains_ev (d := 0) (l := roots) (by omega) (g := fun k i => slices_IndexFunc_int64_at_impl_YoungClosure_1.p6 k roots st (roots.length : Int) i) (t := fun k x => impl_YoungClosure_1.f k x st) (f := fun x => !refOk st x) (fun k i => by rw [slices_IndexFunc_int64_at_impl_YoungClosure_1.p6]; rfl) (fun x hx => ?_)
        unfold impl_YoungClosure_1.f
        exact Ev.bind (impl_isRef_ev st x hsrt (by omega)) (Ev.eq rfl)
      · by_cases c2 : roots.all (refOk st) = true
        · rw [if_pos c2]
          have c3 : ¬ (roots.any fun x => !refOk st x) = true := by
            rw [List.all_eq_not_any_not] at c2
            simpa using c2
          refine Ev.neg c3 (Ev.bind (impl_youngClosure_ev h hw (List.all_eq_true.1 c2) (by omega)) (Ev.eq rfl))
        · rw [if_neg c2]
          have c3 : (roots.any fun x => !refOk st x) = true := by
            rw [List.all_eq_not_any_not] at c2
            simpa using c2
          exact Ev.pos c3 (Ev.eq rfl)
    · rw [if_neg c]
      exact Ev.pos trivial (Ev.pos (by omega) (Ev.eq rfl))
/-! ### the reference -/
theorem spec_roots_ev {st : List Int} (hsl : st.length ≤ 400) (roots : List Int) (hr : roots.length ≤ 1099511627776) : Ev (fun k => spec_l8Roots.p16 k roots st 0) (roots.all (refOk st)) := by
  have lp : ∀ (d i : Nat), roots.length - i = d → i ≤ roots.length → Ev (fun k => spec_l8Roots.p16 k roots st (i : Int)) ((roots.drop i).all (refOk st)) := by
    intro d
    induction d with
    | zero =>
      intro i hd hi
      rw [List.drop_eq_nil_of_le (by omega)]
      refine Ev.step (fun k => by rw [spec_l8Roots.p16]) ?_
      exact Ev.neg (by omega) (Ev.eq rfl)
    | succ d ih =>
      intro i hd hi
      have hlt : i < roots.length := by omega
      have ih := ih (i + 1) (by omega) (by omega)
      refine Ev.step (fun k => by rw [spec_l8Roots.p16]) ?_
      rw [rd_get hlt, show wrap64 ((i : Int) + 1) = ((i + 1 : Nat) : Int) from by rw [w64 (by omega) (by omega)]; omega, List.drop_eq_getElem_cons hlt, List.all_cons]
      refine Ev.pos (by omega) (Ev.pos (by omega) (Ev.pos (by omega) (Ev.bind (spec_l8Ref_ev st _ (by omega)) (Ev.cases (fun c => ?_) (fun c => ?_)))))
      · rw [c, Bool.true_and]; exact ih
      · rw [Bool.eq_false_iff.2 c, Bool.false_and]; exact Ev.eq rfl
  have h := lp _ 0 rfl (by omega)
  rw [List.drop_zero] at h
  exact h
theorem spec_l8Roots_ev (types : List ByteArray) (sz : Int) (words roots : List Int) (hl : types.length ≤ 1048576) (hs : ∀ x ∈ types, x.size ≤ 1048576) (hw : ∀ x ∈ words, -9223372036854775808 ≤ x ∧ x ≤ 9223372036854775807) :
    Ev (fun k => spec_l8Roots.f k types sz words roots) (match headsR types sz words with | some st => decide (roots.length ≤ 400) && roots.all (refOk st) | none => false) := by
  unfold spec_l8Roots.f
  refine Ev.bind (spec_NurseryOk_ev types sz words hl hs hw) ?_
  cases h : headsR types sz words with
  | none => exact Ev.neg (by simp) (Ev.eq rfl)
  | some st =>
    have hp := spec_l8Parse_ev types sz words hl hs hw
    rw [(headsR_some h).1] at hp
    obtain ⟨ht, hwl, hfit, hsrt, hlen⟩ := parsed_facts (headsR_some h).1
    simp only []
    refine Ev.pos rfl ?_
    by_cases c : roots.length ≤ 400
    · rw [decide_eq_true c, Bool.true_and]
      exact Ev.neg (by simp; omega) (Ev.bind hp (spec_roots_ev hlen roots (by omega)))
    · rw [decide_eq_false c, Bool.false_and]
      exact Ev.pos (by simp; omega) (Ev.eq rfl)
theorem seeP_of {out : List Int} {x r : Int} (h2 : refk x = 2) (hm : (0 ≤ r ∧ x ∈ out) ∨ (r = -1 ∧ x ∉ out)) : (r < 0 → seeP out x = out ++ [x]) ∧ (¬ r < 0 → seeP out x = out) := by
  unfold seeP
  rcases hm with ⟨h0, hm⟩ | ⟨h0, hm⟩
  · exact ⟨fun h => by omega, fun _ => if_neg (fun h => h.2 hm)⟩
  · exact ⟨fun _ => if_pos ⟨h2, hm⟩, fun h => by omega⟩
theorem see_none {out : List Int} {x : Int} (c2 : ¬ refk x = 2) : seeP out x = out := by unfold seeP; rw [if_neg (fun h => c2 h.1)]
set_option maxHeartbeats 1000000 in
theorem spec_l8Closure_ev {types : List ByteArray} {sz : Int} {words st roots : List Int} (hst : headsR types sz words = some st) (hw : ∀ x ∈ words, -9223372036854775808 ≤ x ∧ x ≤ 9223372036854775807) (hr : ∀ x ∈ roots, refOk st x = true) (hrl : roots.length ≤ 1099511627776) :
    Ev (fun k => spec_l8Closure.f k types sz words roots) (closureP types words roots) := by
  obtain ⟨hp, hn⟩ := headsR_some hst
  obtain ⟨ht, hwl, hfit, hsrt, hsl⟩ := parsed_facts hp
  have l1 : ∀ (n i : Nat) (out : List Int), Inv st out → 401 ≤ i + n → i ≤ 401 → Ev (fun k => spec_l8Closure.p27 k types sz words out (i : Int)) (closeP types words n i out) := by
    intro n
    induction n with
    | zero =>
      intro i out h hi hi2
      have hlen := h.len
      refine Ev.step (fun k => by rw [spec_l8Closure.p27]) ?_
      exact Ev.neg (by omega) (Ev.eq rfl)
    | succ n ih =>
      intro i out h hi hi2
      have hlen := h.len
      refine Ev.step (fun k => by rw [spec_l8Closure.p27]) ?_
      rw [closeP]
      by_cases c : i < out.length
      · obtain ⟨m, e, hm, hf, hw2, _⟩ := out_at h hfit c
        have hob := nurB_mem hn _ hm
        rw [Int.toNat_natCast] at hob
        have hvl := vals_length hf
        obtain ⟨m', e', h1, h2, h3, h4⟩ := id hf
        obtain rfl : m' = m := by omega
        rw [if_pos c, hw2, e, Int.toNat_natCast]
        refine Ev.pos (by omega) (Ev.pos (by omega) (Ev.pos (by omega) (Ev.bindo (l8Obj_f types words sz m' ht hwl hw hf) ?_)))
        have hkk : rdOf ByteArray.empty types (rd words (m' : Int) / 4) = kindsAt types (rd words m') := rfl
        have hks := parse_size ht (rd words (m' : Int))
        simp only []
        clear hw2 e e'
        have h2' : 0 ≤ rd words (m' : Int) / 4 := by omega
        generalize hK : kindsAt types (rd words (m' : Int)) = kk at *
        generalize valsAt types words m' = vals at *
        have l2 : ∀ (q j : Nat) (out : List Int), vals.length - j = q → j ≤ vals.length → Inv st out → objB st kk j (vals.drop j) = true → Ev (fun k => spec_l8Closure.p41 k types sz words out (i : Int) (rd words (m' : Int) / 4) vals (j : Int)) (closeP types words n (i + 1) (valsP kk j (vals.drop j) out)) := by
          intro q
          induction q with
          | zero =>
            intro j out hq hj h hb
            rw [List.drop_eq_nil_of_le (by omega), valsP]
            refine Ev.step (fun k => by rw [spec_l8Closure.p41]) ?_
            refine Ev.neg (by omega) ?_
            rw [show wrap64 ((i : Int) + 1) = ((i + 1 : Nat) : Int) from by rw [w64 (by omega) (by omega)]; omega]
            exact ih (i + 1) out h (by omega) (by omega)
          | succ q ihq =>
            intro j out hq hj h hb
            have hlt : j < vals.length := by omega
            have hlen := h.len
            have hvl2 : ((j : Int) < (vals.length : Int)) := by omega
            have hol : out.length + 1 ≤ 17592186044416 := by omega
            have a1 : vals.length - (j + 1) = q := by omega
            have a2 : j + 1 ≤ vals.length := by omega
            have a3 : (0 : Int) ≤ (j : Int) := by omega
            have a4 : (j : Int) < (kk.size : Int) := by omega
            have a6 : out.length ≤ 1099511627776 := by omega
            have hx : rd vals (j : Int) = vals[j] := rd_get hlt
            have e1 : wrap64 ((j : Int) + 1) = ((j + 1 : Nat) : Int) := by rw [w64 (by omega) (by omega)]; omega
            rw [List.drop_eq_getElem_cons hlt, objB] at hb
            rw [List.drop_eq_getElem_cons hlt, valsP]
            generalize vals[j] = x at *
            have j1 : ∀ (b : Bool) (out' : List Int), (b = true → out' = out ++ [x]) → (b = false → out' = out) → (objB st kk (j + 1) (vals.drop (j + 1)) = true) → Inv st out' → Ev (fun k => spec_l8Closure.p52 k types sz words out (i : Int) (rd words (m' : Int) / 4) vals (j : Int) b) (closeP types words n (i + 1) (valsP kk (j + 1) (vals.drop (j + 1)) out')) := by
              intro b out' ht hf hb2 hinv
              refine Ev.step (fun k => by rw [spec_l8Closure.p52]) ?_
              rw [e1, hx]
              cases b with
              | true =>
                obtain rfl := ht rfl
                exact Ev.pos rfl (Ev.pos a3 (Ev.pos hvl2 (Ev.pos hol (ihq (j + 1) _ a1 a2 hinv hb2))))
              | false =>
                obtain rfl := hf rfl
                exact Ev.neg (by simp) (ihq (j + 1) _ a1 a2 hinv hb2)
            refine Ev.step (fun k => by rw [spec_l8Closure.p41]) ?_
            rw [hkk, hx]
            refine Ev.pos hvl2 (Ev.pos h2' (Ev.pos h3 (Ev.pos a3 (Ev.pos a4 ?_))))
            by_cases c1 : bt kk (j : Int) = 114
            · rw [if_pos c1, Bool.and_eq_true] at hb
              rw [if_pos c1]
              have hs := h.see hb.1
              refine Ev.pos c1 (Ev.pos a3 (Ev.pos hvl2 (Ev.bindo (spec_RefKind_f x) (Ev.cases (fun c2 => ?_) (fun c2 => ?_)))))
              · obtain ⟨r, hr, hm⟩ := placeIn_ev out x a6
                have hse := seeP_of c2 hm
                exact Ev.pos a3 (Ev.pos hvl2 (Ev.bind hr (j1 _ _ (fun c3 => hse.1 (by simpa using c3)) (fun c3 => hse.2 (by simpa using c3)) hb.2 hs)))
              · rw [see_none c2]
                exact j1 false _ (fun h => by cases h) (fun _ => rfl) hb.2 h
            · rw [if_neg c1] at hb
              rw [if_neg c1]
              exact Ev.neg c1 (j1 false _ (fun h => by cases h) (fun _ => rfl) hb h)
        have hz := l2 _ 0 out rfl (by omega) h (by rw [List.drop_zero]; exact hob)
        rw [List.drop_zero] at hz
        exact hz
      · rw [if_neg c]
        exact Ev.neg (by omega) (Ev.eq rfl)
  have l0 : ∀ (q j : Nat) (out : List Int), roots.length - j = q → j ≤ roots.length → Inv st out → Ev (fun k => spec_l8Closure.p8 k types roots sz words out (j : Int)) (closeP types words 401 0 ((roots.drop j).foldl seeP out)) := by
    intro q
    induction q with
    | zero =>
      intro j out hq hj h
      rw [List.drop_eq_nil_of_le (by omega), List.foldl_nil]
      refine Ev.step (fun k => by rw [spec_l8Closure.p8]) ?_
      exact Ev.neg (by omega) (l1 401 0 out h (by omega) (by omega))
    | succ q ihq =>
      intro j out hq hj h
      have hlt : j < roots.length := by omega
      have hlen := h.len
      have hvl2 : ((j : Int) < (roots.length : Int)) := by omega
      have hol : out.length + 1 ≤ 17592186044416 := by omega
      have a1 : roots.length - (j + 1) = q := by omega
      have a2 : j + 1 ≤ roots.length := by omega
      have a3 : (0 : Int) ≤ (j : Int) := by omega
      have a6 : out.length ≤ 1099511627776 := by omega
      have hxr := hr roots[j] (List.getElem_mem hlt)
      have hx : rd roots (j : Int) = roots[j] := rd_get hlt
      have e1 : wrap64 ((j : Int) + 1) = ((j + 1 : Nat) : Int) := by rw [w64 (by omega) (by omega)]; omega
      rw [List.drop_eq_getElem_cons hlt, List.foldl_cons]
      generalize roots[j] = x at *
      have j1 : ∀ (b : Bool) (out' : List Int), (b = true → out' = out ++ [x]) → (b = false → out' = out) → Inv st out' → Ev (fun k => spec_l8Closure.p19 k types roots sz words out (j : Int) b) (closeP types words 401 0 ((roots.drop (j + 1)).foldl seeP out')) := by
        intro b out' ht hf hinv
        refine Ev.step (fun k => by rw [spec_l8Closure.p19]) ?_
        rw [e1, hx]
        cases b with
        | true =>
          obtain rfl := ht rfl
          exact Ev.pos rfl (Ev.pos a3 (Ev.pos hvl2 (Ev.pos hol (ihq (j + 1) _ a1 a2 hinv))))
        | false =>
          obtain rfl := hf rfl
          exact Ev.neg (by simp) (ihq (j + 1) _ a1 a2 hinv)
      refine Ev.step (fun k => by rw [spec_l8Closure.p8]) ?_
      rw [hx]
      have hs := h.see hxr
      refine Ev.pos hvl2 (Ev.pos a3 (Ev.pos hvl2 (Ev.bindo (spec_RefKind_f x) (Ev.cases (fun c2 => ?_) (fun c2 => ?_)))))
      · obtain ⟨r, hr, hm⟩ := placeIn_ev out x a6
        have hse := seeP_of c2 hm
        exact Ev.pos a3 (Ev.pos hvl2 (Ev.bind hr (j1 _ _ (fun c3 => hse.1 (by simpa using c3)) (fun c3 => hse.2 (by simpa using c3)) hs)))
      · rw [see_none c2]
        exact j1 false _ (fun h => by cases h) (fun _ => rfl) h
  unfold spec_l8Closure.f
  have h := l0 _ 0 [] rfl (by omega) (Inv.nil st)
  rw [List.drop_zero] at h
  exact h
theorem spec_YoungClosure_ev (types : List ByteArray) (sz : Int) (words roots : List Int) (hl : types.length ≤ 1048576) (hs : ∀ x ∈ types, x.size ≤ 1048576) (hw : ∀ x ∈ words, -9223372036854775808 ≤ x ∧ x ≤ 9223372036854775807) : Ev (fun k => spec_YoungClosure.f k types sz words roots) (closR types sz words roots) := by
  unfold spec_YoungClosure.f
  refine Ev.bind (spec_l8Roots_ev types sz words roots hl hs hw) ?_
  unfold closR
  cases h : headsR types sz words with
  | none => exact Ev.neg (by simp) (Ev.eq rfl)
  | some st =>
    simp only []
    by_cases c : roots.length ≤ 400
    · by_cases c2 : roots.all (refOk st) = true
      · rw [if_pos c, if_pos c2]
        exact Ev.pos (by simp only [c, decide_true, Bool.true_and]; exact c2) (Ev.bind (spec_l8Closure_ev h hw (List.all_eq_true.1 c2) (by omega)) (Ev.eq rfl))
      · rw [if_pos c, if_neg c2]
        exact Ev.neg (by simp only [c, decide_true, Bool.true_and]; exact c2) (Ev.eq rfl)
    · rw [if_neg c]
      exact Ev.neg (by simp [c]) (Ev.eq rfl)
theorem closR_length (types : List ByteArray) (sz : Int) (words roots : List Int) : (closR types sz words roots).1.length ≤ 400 := by
  unfold closR
  split
  · rename_i st h
    obtain ⟨hp, hn⟩ := headsR_some h
    obtain ⟨ht, hwl, hfit, hsrt, hsl⟩ := parsed_facts hp
    split
    · split
      · rename_i c2
        have hi := closeP_inv hfit hn 401 0 _ (seeAll_inv roots [] (Inv.nil st) (List.all_eq_true.1 c2))
        have := hi.len
        show (closeP types words 401 0 _).length ≤ 400
        omega
      · simp
    · simp
  · simp
end Go.Proofs.YtgfeafcgpeclcaaDoor.Abs.Pu
namespace Go.Proofs.YtgfeafcgpeclcaaDoor.Abs.Pu
open Go Go.RowKit
set_option linter.unusedVariables false
set_option linter.unusedSectionVars false
set_option linter.unusedSimpArgs false
theorem seeP_pre (out : List Int) (x : Int) : ∃ c, seeP out x = out ++ c := by
  unfold seeP
  split
  · exact ⟨_, rfl⟩
  · exact ⟨[], by simp⟩
theorem seeP_mem {out : List Int} {x : Int} (h : refk x = 2) : x ∈ seeP out x := by
  unfold seeP
  by_cases c : x ∈ out
  · rw [if_neg (fun h => h.2 c)]; exact c
  · rw [if_pos ⟨h, c⟩]; simp
theorem foldl_pre : ∀ (l out : List Int), ∃ c, l.foldl seeP out = out ++ c
  | [], out => ⟨[], by simp⟩
  | x :: l, out => by
    obtain ⟨c1, h1⟩ := seeP_pre out x
    obtain ⟨c2, h2⟩ := foldl_pre l (seeP out x)
    exact ⟨c1 ++ c2, by rw [List.foldl_cons, h2, h1, List.append_assoc]⟩
theorem foldl_mem : ∀ (l out : List Int) (x : Int), x ∈ l → refk x = 2 → x ∈ l.foldl seeP out
  | y :: l, out, x, hx, h => by
    rw [List.foldl_cons]
    rcases List.mem_cons.1 hx with rfl | hx
    · obtain ⟨c, hc⟩ := foldl_pre l (seeP out x)
      rw [hc]
      exact List.mem_append_left _ (seeP_mem h)
    · exact foldl_mem l _ x hx h
theorem valsP_pre (t : ByteArray) : ∀ (l : List Int) (i : Nat) (out : List Int), ∃ c, valsP t i l out = out ++ c
  | [], i, out => ⟨[], by simp [valsP]⟩
  | x :: l, i, out => by
    rw [valsP]
    split
    · obtain ⟨c1, h1⟩ := seeP_pre out x
      obtain ⟨c2, h2⟩ := valsP_pre t l (i + 1) (seeP out x)
      exact ⟨c1 ++ c2, by rw [h2, h1, List.append_assoc]⟩
    · exact valsP_pre t l (i + 1) out
theorem valsP_mem (t : ByteArray) : ∀ (l : List Int) (i : Nat) (out : List Int) (j : Nat) (h : j < l.length), bt t ((i + j : Nat) : Int) = 114 → refk l[j] = 2 → l[j] ∈ valsP t i l out
  | x :: l, i, out, 0, h, hb, hr => by
    rw [valsP, if_pos (by simpa using hb)]
    obtain ⟨c, hc⟩ := valsP_pre t l (i + 1) (seeP out x)
    rw [hc]
    exact List.mem_append_left _ (seeP_mem hr)
  | x :: l, i, out, j + 1, h, hb, hr => by
    have ih := fun out => valsP_mem t l (i + 1) out j (by simpa using h) (by rw [show i + 1 + j = i + (j + 1) from by omega]; exact hb) hr
    rw [valsP]
    split
    · exact ih _
    · exact ih _
theorem closeP_pre (types : List ByteArray) (words : List Int) : ∀ (d i : Nat) (out : List Int), ∃ c, closeP types words d i out = out ++ c
  | 0, i, out => ⟨[], by simp [closeP]⟩
  | d + 1, i, out => by
    rw [closeP]
    split
    · obtain ⟨c1, h1⟩ := valsP_pre (kindsAt types (rd words (rd out (i : Int) / 2))) (valsAt types words (rd out (i : Int) / 2).toNat) 0 out
      obtain ⟨c2, h2⟩ := closeP_pre types words d (i + 1) (valsP (kindsAt types (rd words (rd out (i : Int) / 2))) 0 (valsAt types words (rd out (i : Int) / 2).toNat) out)
      exact ⟨c1 ++ c2, by rw [h2, h1, List.append_assoc]⟩
    · exact ⟨[], by simp⟩
theorem rd_pre {a c : List Int} {i : Nat} (h : i < a.length) : rd (a ++ c) (i : Int) = rd a (i : Int) := by
  rw [rd_get (by rw [List.length_append]; omega), rd_get h, List.getElem_append_left h]
theorem closeP_closed {st : List Int} {types : List ByteArray} {words : List Int} (hsl : st.length ≤ 400) (hfit : ∀ x ∈ st, Fits types words x) (hn : nurB types words st st = true) :
    ∀ (n i : Nat) (out : List Int), Inv st out → 401 ≤ i + n → ∀ j, i ≤ j → j < (closeP types words n i out).length →
      ∀ q (hq : q < (valsAt types words (rd (closeP types words n i out) (j : Int) / 2).toNat).length), bt (kindsAt types (rd words (rd (closeP types words n i out) (j : Int) / 2))) (q : Int) = 114 → refk (valsAt types words (rd (closeP types words n i out) (j : Int) / 2).toNat)[q] = 2 → (valsAt types words (rd (closeP types words n i out) (j : Int) / 2).toNat)[q] ∈ closeP types words n i out
  | 0, i, out, h, hi, j, hij, hj, q, hq, _, _ => by
    have hlen := h.len
    rw [closeP] at hj
    omega
  | n + 1, i, out, h, hi, j, hij, hj, q, hq, hb, hr => by
    by_cases c : i < out.length
    · obtain ⟨m, e, hm, hf, _, _⟩ := out_at h hfit c
      have hob := nurB_mem hn _ hm
      rw [Int.toNat_natCast] at hob
      have hv := valsP_inv (st := st) (t := kindsAt types (rd words (m : Int))) (valsAt types words m) 0 out h hob
      have hR : closeP types words (n + 1) i out = closeP types words n (i + 1) (valsP (kindsAt types (rd words (m : Int))) 0 (valsAt types words m) out) := by
        rw [closeP, if_pos c, e, Int.toNat_natCast]
      revert hj q
      rw [hR]
      intro hj q hq hb hr
      by_cases c2 : j = i
      · subst c2
        obtain ⟨c1, h1⟩ := valsP_pre (kindsAt types (rd words (m : Int))) (valsAt types words m) 0 out
        obtain ⟨c3, h3⟩ := closeP_pre types words n (j + 1) (valsP (kindsAt types (rd words (m : Int))) 0 (valsAt types words m) out)
        have hrd : rd (closeP types words n (j + 1) (valsP (kindsAt types (rd words (m : Int))) 0 (valsAt types words m) out)) (j : Int) = rd out (j : Int) := by
          rw [h3, h1, List.append_assoc, rd_pre c]
        revert q
        rw [hrd, e, Int.toNat_natCast]
        intro q hq hb hr
        have hmem := valsP_mem (kindsAt types (rd words (m : Int))) (valsAt types words m) 0 out q hq (by simpa using hb) hr
        rw [h3]
        exact List.mem_append_left _ hmem
      · exact closeP_closed hsl hfit hn n (i + 1) _ hv.1 (by omega) j (by omega) hj q hq hb hr
    · have hR : closeP types words (n + 1) i out = out := by rw [closeP, if_neg c]
      rw [hR] at hj
      omega
end Go.Proofs.YtgfeafcgpeclcaaDoor.Abs.Pu
namespace Go.Proofs.YtgfeafcgpeclcaaDoor.Abs.Pu
open Go Go.RowKit
set_option linter.unusedVariables false
set_option linter.unusedSectionVars false
set_option linter.unusedSimpArgs false
theorem nodup_sum (w : Int → Nat) : ∀ (l m : List Int), l.Nodup → (∀ x ∈ l, x ∈ m) → (l.map w).sum ≤ (m.map w).sum
  | [], m, _, _ => Nat.zero_le _
  | x :: l, m, hn, h => by
    have hx := h x (by simp)
    rw [List.nodup_cons] at hn
    have h1 := nodup_sum w l (m.erase x) hn.2 (fun y hy => by
      have hne : y ≠ x := fun e => hn.1 (e ▸ hy)
      exact (List.mem_erase_of_ne hne).2 (h y (by simp [hy])))
    have h2 := ((List.perm_cons_erase hx).map w).sum_nat
    rw [h2, List.map_cons, List.map_cons, List.sum_cons, List.sum_cons]
    omega
/-- The words of the object that begins at a word. -/
def wt (types : List ByteArray) (words : List Int) (h : Int) : Nat := 1 + (kindsAt types (rd words h)).size
theorem parse_sum (types : List ByteArray) (words : List Int) : ∀ (d at_ : Nat) (l : List Int), parseFrom types words d at_ = some l → at_ ≤ words.length → at_ + (l.map (wt types words)).sum ≤ words.length
  | 0, at_, l, h, hle => by
    rw [parseFrom] at h
    split at h
    · cases h
    · obtain rfl := Option.some.inj h
      simpa using hle
  | d + 1, at_, l, h, hle => by
    rw [parseFrom] at h
    split at h
    · rename_i hlt
      split at h
      · rename_i hc
        cases hp : parseFrom types words d (at_ + 1 + (kindsAt types (rd words at_)).size) with
        | none => rw [hp] at h; cases h
        | some m =>
          rw [hp] at h
          obtain rfl := Option.some.inj h
          have ih := parse_sum types words d _ m hp hc.2.2
          rw [List.map_cons, List.sum_cons]
          unfold wt at ih ⊢
          omega
      · cases h
    · obtain rfl := Option.some.inj h
      simpa using hle
/-- Of a reference. -/
def wr (types : List ByteArray) (words : List Int) (x : Int) : Nat := wt types words (x / 2)
theorem objB_at {st : List Int} {t : ByteArray} : ∀ (l : List Int) (i : Nat), objB st t i l = true → ∀ q (hq : q < l.length), bt t ((i + q : Nat) : Int) = 114 → refOk st l[q] = true
  | v :: l, i, h, 0, _, hb => by
    rw [objB, if_pos (by simpa using hb), Bool.and_eq_true] at h
    exact h.1
  | v :: l, i, h, q + 1, hq, hb => by
    have h2 : objB st t (i + 1) l = true := by
      rw [objB] at h
      split at h
      · rw [Bool.and_eq_true] at h; exact h.2
      · exact h
    exact objB_at l (i + 1) h2 q (by simpa using hq) (by rw [show i + 1 + q = i + (q + 1) from by omega]; exact hb)
theorem objB_of {st : List Int} {t : ByteArray} : ∀ (l : List Int) (i : Nat), (∀ q (hq : q < l.length), bt t ((i + q : Nat) : Int) = 114 → refOk st l[q] = true) → objB st t i l = true
  | [], _, _ => rfl
  | v :: l, i, h => by
    have h2 := objB_of l (i + 1) (fun q hq hb => h (q + 1) (by simpa using hq) (by rw [show i + (q + 1) = i + 1 + q from by omega]; exact hb))
    rw [objB]
    split
    · rename_i c
      rw [h2, Bool.and_true]
      exact h 0 (by simp) (by simpa using c)
    · exact h2
theorem refOk_nonneg {st : List Int} {x : Int} (h : refOk st x = true) : 0 ≤ refk x := by
  unfold refOk at h
  simp only [Bool.or_eq_true, Bool.and_eq_true, decide_eq_true_eq] at h
  omega
/-- What is found from roots of a right nursery. -/
structure CloF (types : List ByteArray) (words roots out : List Int) : Prop where
  ht : typesOk types = true
  wl : words.length ≤ 400
  ints : ∀ x ∈ words, -9223372036854775808 ≤ x ∧ x ≤ 9223372036854775807
  ol : out.length ≤ 400
  nd : out.Nodup
  young : ∀ x ∈ out, refk x = 2 ∧ ∃ m : Nat, x = 2 * (m : Int) + 1 ∧ x / 2 = m ∧ wrap64 (Int.tdiv x 2) = m ∧ Fits types words (m : Int)
  rin : ∀ x ∈ roots, refk x = 2 → x ∈ out
  closed : ∀ x ∈ out, ∀ q (hq : q < (valsAt types words (x / 2).toNat).length), bt (kindsAt types (rd words (x / 2))) (q : Int) = 114 → refk (valsAt types words (x / 2).toNat)[q] = 2 → (valsAt types words (x / 2).toNat)[q] ∈ out
  sum : (out.map (wr types words)).sum ≤ words.length
  ok : ∀ x ∈ out, ∀ q (hq : q < (valsAt types words (x / 2).toNat).length), bt (kindsAt types (rd words (x / 2))) (q : Int) = 114 → 0 ≤ refk (valsAt types words (x / 2).toNat)[q]
  rok : ∀ x ∈ roots, 0 ≤ refk x
theorem cloF_of {types : List ByteArray} {sz : Int} {words roots st : List Int} (hst : headsR types sz words = some st) (hi : ∀ x ∈ words, -9223372036854775808 ≤ x ∧ x ≤ 9223372036854775807) (hro : ∀ x ∈ roots, refOk st x = true) : CloF types words roots (closureP types words roots) := by
  obtain ⟨hp, hn⟩ := headsR_some hst
  obtain ⟨ht, hwl4, hfit, hsrt, hsl⟩ := parsed_facts hp
  have hInv0 := seeAll_inv roots [] (Inv.nil st) hro
  have hInv : Inv st (closureP types words roots) := closeP_inv hfit hn 401 0 _ hInv0
  have hroots : ∀ x ∈ roots, refk x = 2 → x ∈ closureP types words roots := fun x hx h => by
    obtain ⟨c, hc⟩ := closeP_pre types words 401 0 (roots.foldl seeP [])
    unfold closureP
    rw [hc]
    exact List.mem_append_left _ (foldl_mem roots [] x hx h)
  have hclosed := closeP_closed hsl hfit hn 401 0 _ hInv0 (by omega)
  rw [show closeP types words 401 0 (roots.foldl seeP []) = closureP types words roots from rfl] at hclosed
  generalize closureP types words roots = out at *
  have hlen := hInv.len
  refine ⟨ht, hwl4, hi, by omega, hInv.nd, fun x hx => ?_, hroots, fun x hx => ?_, ?_, fun x hx q hq hb => ?_, fun x hx => refOk_nonneg (hro x hx)⟩
  · obtain ⟨h1, h2⟩ := hInv.ok x hx
    have ho := refk_odd h1
    obtain ⟨m, hm⟩ := Int.eq_ofNat_of_zero_le (show 0 ≤ x / 2 by omega)
    have hm : x / 2 = (m : Int) := hm
    refine ⟨h1, m, by omega, hm, ?_, hm ▸ hfit _ h2⟩
    rw [Int.tdiv_eq_ediv_of_nonneg (by omega), w64 (by omega) (by omega), hm]
  · obtain ⟨j, hj, rfl⟩ := List.getElem_of_mem hx
    have := hclosed j (Nat.zero_le _) hj
    rw [rd_get hj] at this
    exact this
  · have hps : parseFrom types words words.length 0 = some st := by
      unfold parsed at hp
      split at hp
      · exact hp
      · cases hp
    have h1 := parse_sum types words _ _ _ hps (Nat.zero_le _)
    have h2 := nodup_sum (wt types words) (out.map (· / 2)) st ?_ (fun x hx => by
      obtain ⟨y, hy, rfl⟩ := List.mem_map.1 hx
      exact (hInv.ok y hy).2)
    · rw [List.map_map] at h2
      have : (out.map (wr types words)) = out.map (wt types words ∘ (· / 2)) := rfl
      rw [this]
      omega
    · rw [List.Nodup, List.pairwise_map]
      refine List.Pairwise.imp_of_mem (fun ha hb hne e => hne ?_) hInv.nd
      have h1 := refk_odd (hInv.ok _ ha).1
      have h2 := refk_odd (hInv.ok _ hb).1
      omega
  · exact refOk_nonneg (objB_at _ 0 (nurB_mem hn _ (hInv.ok x hx).2) q hq (by rw [Nat.zero_add]; exact hb))
/-- What YoungClosure says yes to. -/
theorem closR_yes {types : List ByteArray} {sz : Int} {words roots : List Int} (h0 : (closR types sz words roots).2 = true) : ∃ st, headsR types sz words = some st ∧ roots.length ≤ 400 ∧ (∀ x ∈ roots, refOk st x = true) ∧ closR types sz words roots = (closureP types words roots, true) := by
  unfold closR at h0 ⊢
  split at h0
  · rename_i st hst
    split at h0
    · rename_i h1
      split at h0
      · rename_i h2
        exact ⟨st, hst, h1, List.all_eq_true.1 h2, by simp only [if_pos h1, if_pos h2]⟩
      · simp at h0
    · simp at h0
  · simp at h0
end Go.Proofs.YtgfeafcgpeclcaaDoor.Abs.Pu
namespace Go.Proofs.YtgfeafcgpeclcaaDoor.Abs
open Go Go.RowKit
set_option linter.unusedVariables false
set_option linter.unusedSectionVars false
set_option linter.unusedSimpArgs false

/-- From the end down. -/
theorem down {P : Nat → Prop} {n : Nat} (h0 : P n) (hs : ∀ i, i < n → P (i + 1) → P i) : ∀ i, i ≤ n → P i := by
  have key : ∀ d i, n - i = d → i ≤ n → P i := by
    intro d
    induction d with
    | zero => intro i hd hi; obtain rfl : i = n := by omega
              exact h0
    | succ d ih => intro i hd hi; exact hs i (by omega) (ih (i + 1) (by omega) (by omega))
  exact fun i hi => key _ i rfl hi
theorem w64s {i : Nat} (h : i ≤ 4611686018427387904) : wrap64 ((i : Int) + 1) = ((i + 1 : Nat) : Int) := by
  rw [w64 (by omega) (by omega)]; omega
theorem rdg {α : Type} {d : α} {l : List α} {i : Nat} (h : i < l.length) : rdOf d l (i : Int) = l[i] := by
  simp [rdOf, List.getD_eq_getElem?_getD, List.getElem?_eq_getElem h]

/-- A list filled place by place. -/
theorem fill_ev {α : Type} {l : List α} {g : Nat → List α → Int → Option (List α)} (z : α)
    (hs : ∀ i (h : i < l.length) (out : List α), out.length = l.length → ∀ r, Ev (fun k => g k (out.set i l[i]) ((i + 1 : Nat) : Int)) r → Ev (fun k => g k out (i : Int)) r)
    (hf : ∀ out : List α, out.length = l.length → Ev (fun k => g k out (l.length : Int)) out) : Ev (fun k => g k (List.replicate l.length z) 0) l := by
  have key : ∀ i, i ≤ l.length → ∀ out : List α, out.length = l.length → (∀ j : Nat, j < i → out[j]? = l[j]?) → Ev (fun k => g k out (i : Int)) l := by
    refine down ?_ ?_
    · intro out ho ht
      have : out = l := List.ext_getElem? fun j => by
        by_cases h : j < l.length
        · exact ht j h
        · rw [List.getElem?_eq_none (by omega), List.getElem?_eq_none (by omega)]
      subst this
      exact hf out ho
    · intro i hi ih out ho ht
      refine hs i hi out ho l (ih _ (by rw [List.length_set]; exact ho) fun j hj => ?_)
      by_cases e : j = i
      · subst e; rw [List.getElem?_set_self (by omega), List.getElem?_eq_getElem hi]
      · rw [List.getElem?_set_ne (fun h => e h.symm)]; exact ht j (by omega)
  exact key 0 (Nat.zero_le _) _ (by simp) (fun j hj => by omega)

/-- A sum of non-negative parts, for the sizes of arguments. -/
theorem sz_loop {α : Type} {l : List α} {ok : α → Prop} {g : Nat → Int → Int → Option Int} (hl : l.length ≤ 4611686018427387904)
    (hs : ∀ i (h : i < l.length) (left : Int), 0 ≤ left → left ≤ 1048576 → (∃ r, r < 0 ∧ Ev (fun k => g k left (i : Int)) r) ∨ ∃ left', 0 ≤ left' ∧ left' ≤ left ∧ ok l[i] ∧ ∀ r, Ev (fun k => g k left' ((i + 1 : Nat) : Int)) r → Ev (fun k => g k left (i : Int)) r)
    (hf : ∀ left : Int, Ev (fun k => g k left (l.length : Int)) left) : ∀ left : Int, 0 ≤ left → left ≤ 1048576 → ∃ r, Ev (fun k => g k left 0) r ∧ (0 ≤ r → r ≤ left ∧ ∀ x ∈ l, ok x) := by
  have key : ∀ i, i ≤ l.length → ∀ left : Int, 0 ≤ left → left ≤ 1048576 → ∃ r, Ev (fun k => g k left (i : Int)) r ∧ (0 ≤ r → r ≤ left ∧ ∀ x ∈ l.drop i, ok x) := by
    refine down ?_ ?_
    · intro left h0 h1
      exact ⟨left, hf left, fun _ => ⟨Int.le_refl _, by simp⟩⟩
    · intro i hi ih left h0 h1
      rcases hs i hi left h0 h1 with ⟨r, hr, he⟩ | ⟨left', a0, a1, ho, hst⟩
      · exact ⟨r, he, fun h => by omega⟩
      · obtain ⟨r, he, hr⟩ := ih left' a0 (by omega)
        refine ⟨r, hst r he, fun h => ⟨by have := (hr h).1; omega, ?_⟩⟩
        rw [List.drop_eq_getElem_cons hi]
        intro x hx
        rcases List.mem_cons.1 hx with rfl | hx
        · exact ho
        · exact (hr h).2 x hx
  intro left h0 h1
  obtain ⟨r, he, hr⟩ := key 0 (Nat.zero_le _) left h0 h1
  exact ⟨r, he, by simpa using hr⟩

/-- The references among an object's values, from one on. -/
def refsB (p : Int → Bool) (t : ByteArray) : Nat → List Int → Bool
  | _, [] => true
  | i, v :: l => if bt t (i : Int) = 114 then p v && refsB p t (i + 1) l else refsB p t (i + 1) l
/-- isObject's loop, at any condition. -/
theorem refs_ev {types : List ByteArray} {vals : List Int} {tp : Int} {p : Int → Bool} {t : Nat → Int → Option Bool} {g : Nat → Int → Option Bool} (h0 : 0 ≤ tp) (h1 : tp < types.length) (hv : vals.length = (rdOf ByteArray.empty types tp).size) (hvl : vals.length ≤ 1099511627776)
    (hg : ∀ k (i : Int), g (k + 1) i = (if i < (vals.length : Int) then (if 0 ≤ i then (if i < (vals.length : Int) then (if 0 ≤ tp then (if tp < (types.length : Int) then (if 0 ≤ i then (if i < ((rdOf ByteArray.empty types tp).size : Int) then (if (byteAt (rdOf ByteArray.empty types tp) i) = 114 then ((t k (rd vals i)).bind fun t3 => (if t3 = true then (g k (wrap64 (i + 1))) else (some false))) else (g k (wrap64 (i + 1)))) else none) else none) else none) else none) else none) else none) else (some true)))
    (ht : ∀ x ∈ vals, Ev (fun k => t k x) (p x)) : Ev (fun k => g k 0) (refsB p (rdOf ByteArray.empty types tp) 0 vals) := by
  have key : ∀ i, i ≤ vals.length → Ev (fun k => g k (i : Int)) (refsB p (rdOf ByteArray.empty types tp) i (vals.drop i)) := by
    refine down ?_ ?_
    · rw [List.drop_eq_nil_of_le (Nat.le_refl _)]
      refine Ev.step (fun k => hg k _) ?_
      exact Ev.neg (by omega) (Ev.eq rfl)
    · intro i hi ih
      refine Ev.step (fun k => hg k _) ?_
      rw [rd_get hi, w64s (by omega), List.drop_eq_getElem_cons hi, refsB]
      refine Ev.pos (by omega) (Ev.pos (by omega) (Ev.pos (by omega) (Ev.pos h0 (Ev.pos h1 (Ev.pos (by omega) (Ev.pos (by omega) ?_))))))
      by_cases c : bt (rdOf ByteArray.empty types tp) (i : Int) = 114
      · rw [if_pos c]
        refine Ev.pos c (Ev.bind (ht _ (List.getElem_mem hi)) (Ev.cases (fun c2 => ?_) (fun c2 => ?_)))
        · rw [c2, Bool.true_and]; exact ih
        · rw [Bool.eq_false_iff.2 c2, Bool.false_and]; exact Ev.eq rfl
      · rw [if_neg c]
        exact Ev.neg c ih
  have h := key 0 (Nat.zero_le _)
  rw [List.drop_zero] at h
  exact h
/-- The same answer from every place on. -/
theorem each_ev {β : Type} {n : Nat} {g : Nat → Int → Option β} {r : β} (hs : ∀ i, i < n → Ev (fun k => g k ((i + 1 : Nat) : Int)) r → Ev (fun k => g k (i : Int)) r) (hf : Ev (fun k => g k (n : Int)) r) : Ev (fun k => g k 0) r :=
  down (P := fun i => Ev (fun k => g k (i : Int)) r) hf hs 0 (Nat.zero_le _)
/-- A condition asked of all elements in order. -/
theorem all_ev {α : Type} {l : List α} {p : α → Bool} {g : Nat → Int → Option Bool}
    (hs : ∀ i (h : i < l.length), (p l[i] = true → ∀ r, Ev (fun k => g k ((i + 1 : Nat) : Int)) r → Ev (fun k => g k (i : Int)) r) ∧ (p l[i] = false → Ev (fun k => g k (i : Int)) false))
    (b : Bool) (hf : Ev (fun k => g k (l.length : Int)) b) : Ev (fun k => g k 0) (l.all p && b) := by
  have key : ∀ i, i ≤ l.length → Ev (fun k => g k (i : Int)) ((l.drop i).all p && b) := by
    refine down ?_ ?_
    · rw [List.drop_eq_nil_of_le (Nat.le_refl _)]
      simpa using hf
    · intro i hi ih
      rw [List.drop_eq_getElem_cons hi, List.all_cons]
      cases c : p l[i] with
      | true => rw [Bool.true_and]; exact (hs i hi).1 c _ ih
      | false => rw [Bool.false_and, Bool.false_and]; exact (hs i hi).2 c
  have h := key 0 (Nat.zero_le _)
  rw [List.drop_zero] at h
  exact h
end Go.Proofs.YtgfeafcgpeclcaaDoor.Abs
namespace Go.Proofs.YtgfeafcgpeclcaaDoor.Abs.Pu
open Go Go.RowKit
set_option linter.unusedVariables false
set_option linter.unusedSectionVars false
set_option linter.unusedSimpArgs false
/-- Where x goes. -/
def fwd1 (x : Int) : List Int → List Int → Int
  | a :: f, b :: t => if a = x then b else fwd1 x f t
  | _, _ => x
theorem fwd1_mem (x : Int) : ∀ f t : List Int, fwd1 x f t = x ∨ (x ∈ f ∧ fwd1 x f t ∈ t)
  | [], _ => Or.inl rfl
  | _ :: _, [] => Or.inl rfl
  | a :: f, b :: t => by
    unfold fwd1
    by_cases c : a = x
    · rw [if_pos c]; exact Or.inr ⟨by simp [c], by simp⟩
    · rw [if_neg c]
      rcases fwd1_mem x f t with h | ⟨h1, h2⟩
      · exact Or.inl h
      · exact Or.inr ⟨List.mem_cons_of_mem _ h1, List.mem_cons_of_mem _ h2⟩
def fwdV (t : ByteArray) (f to : List Int) : Nat → List Int → List Int
  | _, [] => []
  | i, v :: l => (if bt t (i : Int) = 114 then fwd1 v f to else v) :: fwdV t f to (i + 1) l
theorem fwdV_length (t : ByteArray) (f to : List Int) : ∀ (l : List Int) (i : Nat), (fwdV t f to i l).length = l.length
  | [], _ => rfl
  | v :: l, i => by rw [fwdV, List.length_cons, fwdV_length t f to l (i + 1), List.length_cons]
theorem fwdV_get (t : ByteArray) (f to : List Int) : ∀ (l : List Int) (i j : Nat) (h : j < l.length) (h' : j < (fwdV t f to i l).length), (fwdV t f to i l)[j] = if bt t ((i + j : Nat) : Int) = 114 then fwd1 l[j] f to else l[j]
  | [], _, _, h, _ => absurd h (Nat.not_lt_zero _)
  | v :: l, i, 0, _, _ => rfl
  | v :: l, i, j + 1, h, h' => by
    have := fwdV_get t f to l (i + 1) j (by simpa using h) (by rw [fwdV_length]; simpa using h)
    rw [show i + (j + 1) = i + 1 + j from by omega]
    exact this
theorem fwdV_nil (t : ByteArray) : ∀ (l : List Int) (i : Nat), fwdV t [] [] i l = l
  | [], _ => rfl
  | v :: l, i => by
    rw [fwdV, fwdV_nil t l (i + 1)]
    split <;> rfl
theorem fwd1_not {x : Int} : ∀ {f to : List Int}, x ∉ f → fwd1 x f to = x
  | [], _, _ => rfl
  | _ :: _, [], _ => rfl
  | a :: f, b :: t, h => by
    unfold fwd1
    rw [if_neg (fun e => h (by simp [e]))]
    exact fwd1_not (fun hm => h (List.mem_cons_of_mem _ hm))
theorem l4To_ev (x : Int) (f to : List Int) (h : f.length = to.length) (hl : to.length ≤ 400) : Ev (fun k => spec_l4To.f k x f to) (fwd1 x f to) := by
  have key : ∀ i, i ≤ f.length → Ev (fun k => spec_l4To.p6 k x f to (i : Int)) (fwd1 x (f.drop i) (to.drop i)) := by
    refine down ?_ ?_
    · refine Ev.step (fun k => by rw [spec_l4To.p6]) ?_
      rw [List.drop_eq_nil_of_le (Nat.le_refl _)]
      exact Ev.neg (by omega) (Ev.eq (by unfold fwd1; rfl))
    · intro i hi ih
      have hi2 : i < to.length := by omega
      refine Ev.step (fun k => by rw [spec_l4To.p6]) ?_
      rw [rd_get hi, rd_get hi2, w64s (i := i) (by omega), List.drop_eq_getElem_cons hi, List.drop_eq_getElem_cons hi2, fwd1]
      refine Ev.pos (by omega) (Ev.pos (by omega) (Ev.pos (by omega) ?_))
      by_cases c : f[i] = x
      · rw [if_pos c]
        exact Ev.pos c (Ev.pos (by omega) (Ev.pos (by omega) (Ev.eq rfl)))
      · rw [if_neg c]
        exact Ev.neg c ih
  unfold spec_l4To.f
  exact key 0 (Nat.zero_le _)
theorem l4Forward_ev (types : List ByteArray) (o : Int × List Int) (f to : List Int) (h0 : 0 ≤ o.1) (h1 : o.1 < types.length) (h2 : o.2.length = (rdOf ByteArray.empty types o.1).size) (h4 : o.2.length ≤ 1000) (h : f.length = to.length) (hl : to.length ≤ 400) : Ev (fun k => spec_l4Forward.f k types o.1 o.2 f to) (o.1, fwdV (rdOf ByteArray.empty types o.1) f to 0 o.2) := by
  obtain ⟨tp, vals⟩ := o
  simp only [] at *
  have hlen := fwdV_length (rdOf ByteArray.empty types tp) f to vals 0
  have hget := fwdV_get (rdOf ByteArray.empty types tp) f to vals 0
  generalize fwdV (rdOf ByteArray.empty types tp) f to 0 vals = R at *
  have key : ∀ i, i ≤ vals.length → Ev (fun k => spec_l4Forward.p8 k types f to tp vals 0 tp (R.take i) (i : Int)) (tp, R) := by
    refine down ?_ ?_
    · refine Ev.step (fun k => by rw [spec_l4Forward.p8]) ?_
      rw [List.take_of_length_le (by omega)]
      exact Ev.neg (by omega) (Ev.eq rfl)
    · intro i hi ih
      have hi2 : i < R.length := by omega
      refine Ev.step (fun k => by rw [spec_l4Forward.p8]) ?_
      rw [rd_get hi, w64s (i := i) (by omega)]
      rw [take_snoc2 R i hi2, hget i hi hi2, Nat.zero_add] at ih
      have htk : (R.take i).length + 1 ≤ 17592186044416 := by rw [List.length_take]; omega
      refine Ev.pos (by omega) (Ev.pos (by omega) (Ev.pos (by omega) (Ev.pos h0 (Ev.pos h1 (Ev.pos (by omega) (Ev.pos (by omega) ?_))))))
      by_cases c : bt (rdOf ByteArray.empty types tp) (i : Int) = 114
      · rw [if_pos c] at ih
        exact Ev.pos c (Ev.bind (l4To_ev _ f to h hl) (Ev.pos htk ih))
      · rw [if_neg c] at ih
        exact Ev.neg c (Ev.pos htk ih)
  unfold spec_l4Forward.f
  exact key 0 (Nat.zero_le _)
end Go.Proofs.YtgfeafcgpeclcaaDoor.Abs.Pu
namespace Go.Proofs.YtgfeafcgpeclcaaDoor.Abs.Pu
open Go Go.RowKit
set_option linter.unusedVariables false
set_option linter.unusedSectionVars false
set_option linter.unusedSimpArgs false
/-- The new references, packed from a word on. -/
def tos (w : Int → Nat) : Nat → List Int → List Int
  | _, [] => []
  | p, x :: l => (2 * (p : Int) + 1) :: tos w (p + w x) l
theorem tos_length (w : Int → Nat) : ∀ (l : List Int) (p : Nat), (tos w p l).length = l.length
  | [], _ => rfl
  | x :: l, p => by rw [tos, List.length_cons, tos_length w l, List.length_cons]
/-- A header, one age older. -/
def ageUp (h : Int) : Int := 4 * (h / 4) + (if h % 4 + 1 < 3 then h % 4 + 1 else 3)
def newW (types : List ByteArray) (words f to : List Int) : List Int → List Int
  | [] => []
  | x :: l => (ageUp (rd words (x / 2)) :: fwdV (kindsAt types (rd words (x / 2))) f to 0 (valsAt types words (x / 2).toNat)) ++ newW types words f to l
def toP (types : List ByteArray) (words out : List Int) : List Int := tos (wr types words) 0 out
def minorR (types : List ByteArray) (sz : Int) (words roots : List Int) : Int × List Int × List Int × Bool :=
  if (closR types sz words roots).2 = true then (sz, newW types words (closR types sz words roots).1 (toP types words (closR types sz words roots).1) (closR types sz words roots).1, roots.map (fun x => fwd1 x (closR types sz words roots).1 (toP types words (closR types sz words roots).1)), true) else (0, [], [], false)
/-- One found object: all that the loops ask. -/
theorem CloF.at_ {types : List ByteArray} {words roots out : List Int} (C : CloF types words roots out) {x : Int} (hx : x ∈ out) : ∃ m : Nat, x / 2 = m ∧ wrap64 (Int.tdiv x 2) = m ∧ m < words.length ∧ 0 ≤ rd words m ∧ rd words m ≤ 9223372036854775807 ∧ rd words m / 4 < types.length ∧ types.length ≤ 12 ∧ Fits types words (m : Int) ∧ (valsAt types words m).length = (kindsAt types (rd words m)).size ∧ (kindsAt types (rd words m)).size ≤ 23 ∧ wr types words x = 1 + (kindsAt types (rd words m)).size := by
  obtain ⟨_, m, e0, e1, e2, hf⟩ := C.young x hx
  have hv := vals_length hf
  have hk := parse_size C.ht (rd words m)
  obtain ⟨m', e', h1, h2, h3, h4⟩ := id hf
  obtain rfl : m' = m := by omega
  have hr := rd_range C.ints h1
  exact ⟨m', e1, e2, h1, h2, hr.2, h3, (types_length C.ht).2, hf, hv, hk, by unfold wr wt; rw [e1]⟩
theorem newW_length {types : List ByteArray} {words roots out : List Int} (C : CloF types words roots out) (f to : List Int) : ∀ l : List Int, (∀ x ∈ l, x ∈ out) → (newW types words f to l).length = (l.map (wr types words)).sum
  | [], _ => rfl
  | x :: l, h => by
    obtain ⟨m, e1, _, _, _, _, _, _, _, hv, _, hw⟩ := C.at_ (h x (by simp))
    rw [newW, List.length_append, List.length_cons, fwdV_length, newW_length C f to l (fun y hy => h y (List.mem_cons_of_mem _ hy)), List.map_cons, List.sum_cons, hw, e1, Int.toNat_natCast, hv]
    omega
/-! ### the reference -/
theorem spec_header (h t : Int) (h0 : 0 ≤ h) (h1 : h ≤ 9223372036854775807) : wrap64 (wrap64 (4 * (h / 4)) + (if 3 < wrap64 (Int.tmod h 4 + 1) then 3 else wrap64 (Int.tmod h 4 + 1))) = ageUp h := by
  unfold ageUp
  rw [Int.tmod_eq_emod_of_nonneg h0, w64 (x := h % 4 + 1) (by omega) (by omega), w64 (x := 4 * (h / 4)) (by omega) (by omega)]
  by_cases c : 3 < h % 4 + 1
  · rw [if_pos c, if_neg (by omega), w64 (by omega) (by omega)]
  · rw [if_neg c]
    by_cases c2 : h % 4 + 1 < 3
    · rw [if_pos c2, w64 (by omega) (by omega)]
    · rw [if_neg c2, w64 (by omega) (by omega)]
      omega
theorem impl_header (h t : Int) (h0 : 0 ≤ h) (h1 : h ≤ 9223372036854775807) : wrap64 (wrap64 (4 * (h / 4)) + (if wrap64 (Int.tmod h 4 + 1) < 3 then wrap64 (Int.tmod h 4 + 1) else 3)) = ageUp h := by
  unfold ageUp
  rw [Int.tmod_eq_emod_of_nonneg h0, w64 (x := h % 4 + 1) (by omega) (by omega), w64 (x := 4 * (h / 4)) (by omega) (by omega)]
  by_cases c : h % 4 + 1 < 3
  · rw [if_pos c, w64 (by omega) (by omega)]
  · rw [if_neg c, w64 (by omega) (by omega)]
theorem mid_get {out pre : List Int} {x : Int} {l : List Int} (h : out = pre ++ x :: l) : pre.length < out.length ∧ rd out (pre.length : Int) = x ∧ out = (pre ++ [x]) ++ l ∧ (pre ++ [x]).length = pre.length + 1 := by
  subst h
  have hl : pre.length < (pre ++ x :: l).length := by simp
  refine ⟨hl, ?_, by simp, by simp⟩
  rw [rd_get hl, List.getElem_append_right (Nat.le_refl _)]
  simp
theorem spec_l8Minor_ev {types : List ByteArray} {sz : Int} {words roots st : List Int} (hst : headsR types sz words = some st) (hi : ∀ x ∈ words, -9223372036854775808 ≤ x ∧ x ≤ 9223372036854775807) (hro : ∀ x ∈ roots, refOk st x = true) (hrl : roots.length ≤ 400) :
    Ev (fun k => spec_l8Minor.f k types sz words roots) (sz, newW types words (closureP types words roots) (toP types words (closureP types words roots)) (closureP types words roots), roots.map (fun x => fwd1 x (closureP types words roots) (toP types words (closureP types words roots)))) := by
  have C := cloF_of hst hi hro
  unfold spec_l8Minor.f
  refine Ev.bind (spec_l8Closure_ev hst hi hro (by omega)) ?_
  clear hst hro
  generalize closureP types words roots = out at *
  have hol := C.ol
  have hwl := C.wl
  have hsum := C.sum
  have hto : (toP types words out).length = out.length := tos_length _ _ _
  generalize hT : toP types words out = to at *
  -- the roots
  have l3 : Ev (fun k => spec_l8Minor.p52 k roots 0 out to sz (newW types words out to out) [] 0) (sz, newW types words out to out, roots.map (fun x => fwd1 x out to)) := by
    generalize newW types words out to out = W
    have key : ∀ i, i ≤ roots.length → Ev (fun k => spec_l8Minor.p52 k roots 0 out to sz W ((roots.map (fun x => fwd1 x out to)).take i) (i : Int)) (sz, W, roots.map (fun x => fwd1 x out to)) := by
      have hml : (roots.map (fun x => fwd1 x out to)).length = roots.length := by simp
      refine down ?_ ?_
      · refine Ev.step (fun k => by rw [spec_l8Minor.p52]) ?_
        rw [List.take_of_length_le (by omega)]
        exact Ev.neg (by omega) (Ev.eq rfl)
      · intro i hi2 ih
        refine Ev.step (fun k => by rw [spec_l8Minor.p52]) ?_
        rw [rd_get hi2, w64s (i := i) (by omega)]
        rw [take_snoc2 _ i (by omega), List.getElem_map] at ih
        exact Ev.pos (by omega) (Ev.pos (by omega) (Ev.pos (by omega) (Ev.bind (l4To_ev _ out to (by omega) (by omega)) (Ev.pos (by rw [List.length_take]; omega) ih))))
    exact key 0 (Nat.zero_le _)
  -- the words
  have l2 : ∀ (l pre acc : List Int), out = pre ++ l → acc.length + (l.map (wr types words)).sum ≤ 400 → acc ++ newW types words out to l = newW types words out to out → Ev (fun k => spec_l8Minor.p31 k types roots sz words 0 out to sz acc (pre.length : Int)) (sz, newW types words out to out, roots.map (fun x => fwd1 x out to)) := by
    intro l
    induction l with
    | nil =>
      intro pre acc he ha hn
      refine Ev.step (fun k => by rw [spec_l8Minor.p31]) ?_
      have : out.length = pre.length := by rw [he]; simp
      rw [newW, List.append_nil] at hn
      rw [hn]
      exact Ev.neg (by omega) l3
    | cons x l ih =>
      intro pre acc he ha hn
      obtain ⟨p1, p2, p3, p4⟩ := mid_get he
      obtain ⟨m, e1, e2, h1, h2, h3, h4, h5, hf, hv, hk, hw⟩ := C.at_ (x := x) (by rw [he]; simp)
      rw [List.map_cons, List.sum_cons, hw] at ha
      rw [newW, e1, Int.toNat_natCast] at hn
      have hfl := fwdV_length (kindsAt types (rd words m)) out to (valsAt types words m) 0
      have ih := ih (pre ++ [x]) (acc ++ [ageUp (rd words m)] ++ fwdV (kindsAt types (rd words m)) out to 0 (valsAt types words m)) p3 (by simp only [List.length_append, List.length_cons, List.length_nil]; omega) (by rw [← hn]; simp)
      refine Ev.step (fun k => by rw [spec_l8Minor.p31]) ?_
      rw [p2, e2, w64s (i := pre.length) (by omega)]
      rw [p4] at ih
      have ho := l8Obj_f types words sz m C.ht C.wl C.ints hf
      have hF := l4Forward_ev types (rd words m / 4, valsAt types words m) out to (by simp only []; omega) h4 hv (by simp only []; omega) (by omega) (by omega)
      have hh := spec_header (rd words m) 0 h2 h3
      refine Ev.pos (by omega) (Ev.pos (by omega) (Ev.pos (by omega) (Ev.pos (by omega) (Ev.pos (by omega) (Ev.pos (by omega) (Ev.pos (by omega) (Ev.bindo ho (Ev.bind hF ?_))))))))
      simp only []
      rw [hh]
      refine Ev.pos (by omega) (Ev.pos ?_ ih)
      show (acc ++ [ageUp (rd words m)]).length + (fwdV (kindsAt types (rd words m)) out to 0 (valsAt types words m)).length ≤ _
      simp only [List.length_append, List.length_cons, List.length_nil]
      omega
  -- the new references
  have l1 : ∀ (l pre acc : List Int) (p : Nat), out = pre ++ l → acc.length = pre.length → p + (l.map (wr types words)).sum ≤ 400 → acc ++ tos (wr types words) p l = to → Ev (fun k => spec_l8Minor.p12 k types roots sz words 0 out acc (p : Int) (pre.length : Int)) (sz, newW types words out to out, roots.map (fun x => fwd1 x out to)) := by
    intro l
    induction l with
    | nil =>
      intro pre acc p he ha hp hn
      refine Ev.step (fun k => by rw [spec_l8Minor.p12]) ?_
      have : out.length = pre.length := by rw [he]; simp
      rw [tos, List.append_nil] at hn
      rw [hn]
      exact Ev.neg (by omega) (l2 out [] [] rfl (by simp only [List.length_nil]; omega) rfl)
    | cons x l ih =>
      intro pre acc p he ha hp hn
      obtain ⟨p1, p2, p3, p4⟩ := mid_get he
      obtain ⟨m, e1, e2, h1, h2, h3, h4, h5, hf, hv, hk, hw⟩ := C.at_ (x := x) (by rw [he]; simp)
      rw [List.map_cons, List.sum_cons] at hp
      rw [tos] at hn
      have ih := ih (pre ++ [x]) (acc ++ [2 * (p : Int) + 1]) (p + wr types words x) p3 (by simp only [List.length_append, List.length_cons, List.length_nil]; omega) (by omega) (by rw [← hn]; simp)
      have ho := l8Obj_f types words sz m C.ht C.wl C.ints hf
      refine Ev.step (fun k => by rw [spec_l8Minor.p12]) ?_
      rw [p2, e2, w64s (i := pre.length) (by omega)]
      rw [p4] at ih
      refine Ev.pos (by omega) (Ev.pos (by omega) (Ev.pos (by omega) (Ev.pos (by omega) (Ev.bindo ho ?_))))
      simp only []
      rw [w64 (x := 2 * (p : Int)) (by omega) (by omega), w64 (x := 2 * (p : Int) + 1) (by omega) (by omega), w64 (x := (p : Int) + 1) (by omega) (by omega), w64 (x := (p : Int) + 1 + ((valsAt types words m).length : Int)) (by omega) (by omega)]
      rw [show (p : Int) + 1 + ((valsAt types words m).length : Int) = ((p + wr types words x : Nat) : Int) from by omega]
      exact ih
  exact l1 out [] [] 0 rfl rfl (by omega) hT
theorem spec_Minor_ev (types : List ByteArray) (sz : Int) (words roots : List Int) (hl : types.length ≤ 1048576) (hs : ∀ x ∈ types, x.size ≤ 1048576) (hw : ∀ x ∈ words, -9223372036854775808 ≤ x ∧ x ≤ 9223372036854775807) : Ev (fun k => spec_Minor.f k types sz words roots) (minorR types sz words roots) := by
  unfold spec_Minor.f minorR
  have e := spec_l8Roots_ev types sz words roots hl hs hw
  by_cases c : (closR types sz words roots).2 = true
  · rw [if_pos c]
    obtain ⟨st, hst, hrl, hro, e2⟩ := closR_yes c
    rw [e2]
    have e3 := spec_l8Minor_ev hst hw hro hrl
    refine Ev.bind e ?_
    rw [hst]
    refine Ev.pos ?_ (Ev.bind e3 (Ev.eq rfl))
    simp only [Bool.and_eq_true, decide_eq_true_eq]
    exact ⟨hrl, List.all_eq_true.2 hro⟩
  · rw [if_neg c]
    refine Ev.bind e ?_
    unfold closR at c
    cases h : headsR types sz words with
    | none => exact Ev.neg (by simp) (Ev.eq rfl)
    | some st =>
      rw [h] at c
      refine Ev.neg (fun hc => ?_) (Ev.eq rfl)
      simp only [Bool.and_eq_true, decide_eq_true_eq] at hc
      simp only [if_pos hc.1, if_pos hc.2] at c
      exact c trivial
/-! ### the program -/
def mapOf (w : Int → Nat) : Nat → (Int → Option Int) → List Int → (Int → Option Int)
  | _, m, [] => m
  | p, m, x :: l => mapOf w (p + w x) (mput m x (2 * (p : Int) + 1)) l
theorem mapOf_not (w : Int → Nat) {x : Int} : ∀ (l : List Int) (p : Nat) (m : Int → Option Int), x ∉ l → mapOf w p m l x = m x
  | [], _, _, _ => rfl
  | y :: l, p, m, h => by
    rw [mapOf, mapOf_not w l _ _ (fun hm => h (List.mem_cons_of_mem _ hm))]
    unfold mput
    rw [if_neg (fun e => h (by simp [e]))]
theorem mapOf_get (w : Int → Nat) {x : Int} : ∀ (l : List Int) (p : Nat) (m : Int → Option Int), l.Nodup → x ∈ l → (mapOf w p m l x).getD 0 = fwd1 x l (tos w p l)
  | y :: l, p, m, hn, h => by
    rw [List.nodup_cons] at hn
    rw [mapOf, tos, fwd1]
    by_cases c : y = x
    · subst c
      rw [if_pos rfl, mapOf_not w l _ _ hn.1]
      unfold mput
      rw [if_pos rfl]
      rfl
    · rw [if_neg c]
      exact mapOf_get w l _ _ hn.2 (by rcases List.mem_cons.1 h with h | h; exact absurd h.symm c; exact h)
theorem youngRef_f (p : Nat) (h : p ≤ 399) : impl_YoungRef.f (p : Int) = some (2 * (p : Int) + 1) := by
  unfold impl_YoungRef.f
  rw [within_f, Option.bind_some, if_pos (by simp; omega), w64 (x := 2 * (p : Int)) (by omega) (by omega), w64 (by omega) (by omega)]
theorem minor1_f {types : List ByteArray} {words roots out : List Int} (C : CloF types words roots out) (x : Int) (hx : refk x = 2 → x ∈ out) : impl_Minor_1.f x (mapOf (wr types words) 0 (fun _ => none) out) = some (mapOf (wr types words) 0 (fun _ => none) out, fwd1 x out (toP types words out)) := by
  unfold impl_Minor_1.f
  rw [impl_isYoung_f, Option.bind_some]
  by_cases c : refk x = 2
  · rw [if_pos (by simpa using c), mapOf_get _ _ _ _ C.nd (hx c)]
    rfl
  · rw [if_neg (by simpa using c), fwd1_not (fun hm => c (C.young x hm).1)]
theorem impl_Minor_ev (types : List ByteArray) (sz : Int) (words roots : List Int) (hs : ∀ x ∈ types, x.size ≤ 1048576) (hi : ∀ x ∈ words, -9223372036854775808 ≤ x ∧ x ≤ 9223372036854775807) : Ev (fun k => impl_Minor.f k types sz words roots) (minorR types sz words roots) := by
  unfold impl_Minor.f minorR
  refine Ev.bind (impl_YoungClosure_ev types sz words roots hs hi) ?_
  by_cases c : (closR types sz words roots).2 = true
  rotate_left
  · rw [if_neg c]
    exact Ev.neg c (Ev.eq rfl)
  rw [if_pos c]
  refine Ev.pos c ?_
  obtain ⟨st, hst, hrl, hro, e2⟩ := closR_yes c
  rw [e2]
  have C := cloF_of hst hi hro
  clear hst hro e2 c
  simp only []
  generalize closureP types words roots = out at *
  have hol := C.ol
  have hwl := C.wl
  have hsum := C.sum
  have hM := fun x hx => minor1_f C x hx
  have hto : (toP types words out).length = out.length := tos_length _ _ _
  generalize hT : toP types words out = to at *
  generalize hMM : mapOf (wr types words) 0 (fun _ => none) out = M at *
  -- the roots
  have l3 : Ev (fun k => impl_Minor.p89 k 0 M sz (newW types words out to out) [] roots (roots.length : Int) 0) (sz, newW types words out to out, roots.map (fun x => fwd1 x out to), true) := by
    generalize newW types words out to out = W
    have key : ∀ i, i ≤ roots.length → Ev (fun k => impl_Minor.p89 k 0 M sz W ((roots.map (fun x => fwd1 x out to)).take i) roots (roots.length : Int) (i : Int)) (sz, W, roots.map (fun x => fwd1 x out to), true) := by
      have hml : (roots.map (fun x => fwd1 x out to)).length = roots.length := by simp
      refine down ?_ ?_
      · refine Ev.step (fun k => by rw [impl_Minor.p89]) ?_
        rw [List.take_of_length_le (by omega)]
        exact Ev.neg (by omega) (Ev.eq rfl)
      · intro i hi2 ih
        have hm := hM roots[i] (C.rin _ (List.getElem_mem hi2))
        refine Ev.step (fun k => by rw [impl_Minor.p89]) ?_
        rw [rd_get hi2, w64s (i := i) (by omega)]
        rw [take_snoc2 _ i (by omega), List.getElem_map] at ih
        exact Ev.pos (by omega) (Ev.pos (by omega) (Ev.pos (by omega) (Ev.bindo hm (Ev.pos (by rw [List.length_take]; omega) ih))))
    exact key 0 (Nat.zero_le _)
  -- the words
  have l2 : ∀ (l pre acc : List Int), out = pre ++ l → acc.length + (l.map (wr types words)).sum ≤ 400 → acc ++ newW types words out to l = newW types words out to out → Ev (fun k => impl_Minor.p43 k types roots sz words 0 M sz acc out (out.length : Int) (pre.length : Int)) (sz, newW types words out to out, roots.map (fun x => fwd1 x out to), true) := by
    intro l
    induction l with
    | nil =>
      intro pre acc he ha hn
      refine Ev.step (fun k => by rw [impl_Minor.p43]) ?_
      have : out.length = pre.length := by rw [he]; simp
      rw [newW, List.append_nil] at hn
      rw [hn]
      exact Ev.neg (by omega) l3
    | cons x l ih =>
      intro pre acc he ha hn
      have hxo : x ∈ out := by rw [he]; simp
      obtain ⟨p1, p2, p3, p4⟩ := mid_get he
      obtain ⟨m, e1, e2, h1, h2, h3, h4, h5, hf, hv, hk, hw⟩ := C.at_ (x := x) hxo
      have hcl := C.closed x hxo
      rw [e1, Int.toNat_natCast] at hcl
      rw [List.map_cons, List.sum_cons, hw] at ha
      rw [newW, e1, Int.toNat_natCast] at hn
      have hfl := fwdV_length (kindsAt types (rd words m)) out to (valsAt types words m) 0
      have hfg := fwdV_get (kindsAt types (rd words m)) out to (valsAt types words m) 0
      have ih := ih (pre ++ [x]) (acc ++ [ageUp (rd words m)] ++ fwdV (kindsAt types (rd words m)) out to 0 (valsAt types words m)) p3 (by simp only [List.length_append, List.length_cons, List.length_nil]; omega) (by rw [← hn]; simp)
      have ho := youngObject_f types words sz m C.ht C.wl C.ints hf
      have hh := impl_header (rd words m) 0 h2 h3
      refine Ev.step (fun k => by rw [impl_Minor.p43]) ?_
      rw [p2, e2]
      refine Ev.pos (by omega) (Ev.pos (by omega) (Ev.pos (by omega) (Ev.bindo ho (Ev.pos (by omega) (Ev.pos (by omega) (Ev.pos (by omega) ?_))))))
      simp only []
      rw [hh]
      rw [p4] at ih
      have hkk : rdOf ByteArray.empty types (rd words (m : Int) / 4) = kindsAt types (rd words m) := rfl
      have hd0 : 0 ≤ rd words (m : Int) / 4 := by omega
      have hal : (acc ++ [ageUp (rd words (m : Int))]).length = acc.length + 1 := by simp
      have hws := w64s (i := pre.length) (by omega)
      clear hn hh l3 ho he p2 p3 e1 e2 hT hMM
      generalize rd words (m : Int) / 4 = tp at *
      generalize acc ++ [ageUp (rd words (m : Int))] = acc2 at *
      generalize kindsAt types (rd words (m : Int)) = kk at *
      generalize valsAt types words m = vals at *
      generalize hFV : fwdV kk out to 0 vals = F at *
      have key : ∀ q, q ≤ vals.length → Ev (fun k => impl_Minor.p63 k types roots sz words 0 M sz (acc2 ++ F.take q) tp vals out (out.length : Int) (pre.length : Int) (vals.length : Int) (q : Int)) (sz, newW types words out to out, roots.map (fun x => fwd1 x out to), true) := by
        refine down ?_ ?_
        · refine Ev.step (fun k => by rw [impl_Minor.p63]) ?_
          rw [List.take_of_length_le (by omega), hws]
          exact Ev.neg (by omega) ih
        · intro q hq ihq
          have hq2 : q < F.length := by omega
          have hg := hfg q hq hq2
          rw [Nat.zero_add] at hg
          have hle : (acc2 ++ F.take q).length + 1 ≤ 17592186044416 := by rw [List.length_append, List.length_take]; omega
          rw [take_snoc2 F q hq2, ← List.append_assoc, hg] at ihq
          refine Ev.step (fun k => by rw [impl_Minor.p63]) ?_
          rw [rd_get hq, w64s (i := q) (by omega), hkk]
          refine Ev.pos (by omega) (Ev.pos (by omega) (Ev.pos (by omega) (Ev.pos hd0 (Ev.pos h4 (Ev.pos (by omega) (Ev.pos (by omega) ?_))))))
          by_cases c : bt kk (q : Int) = 114
          · rw [if_pos c] at ihq
            exact Ev.pos c (Ev.bindo (hM vals[q] (fun hr => hcl q hq c hr)) (Ev.pos hle ihq))
          · rw [if_neg c] at ihq
            exact Ev.neg c (Ev.pos hle ihq)
      have := key 0 (Nat.zero_le _)
      rw [List.take_zero, List.append_nil] at this
      exact this
  -- the new references
  have l1 : ∀ (l pre : List Int) (m : Int → Option Int) (p : Nat), out = pre ++ l → p + (l.map (wr types words)).sum ≤ words.length → mapOf (wr types words) p m l = M → Ev (fun k => impl_Minor.p20 k types roots sz words 0 out m (p : Int) (out.length : Int) (pre.length : Int)) (sz, newW types words out to out, roots.map (fun x => fwd1 x out to), true) := by
    intro l
    induction l with
    | nil =>
      intro pre mm p he hp hn
      refine Ev.step (fun k => by rw [impl_Minor.p20]) ?_
      have : out.length = pre.length := by rw [he]; simp
      rw [mapOf] at hn
      rw [hn]
      exact Ev.neg (by omega) (l2 out [] [] rfl (by simp only [List.length_nil]; omega) rfl)
    | cons x l ih =>
      intro pre mm p he hp hn
      obtain ⟨p1, p2, p3, p4⟩ := mid_get he
      obtain ⟨m, e1, e2, h1, h2, h3, h4, h5, hf, hv, hk, hw⟩ := C.at_ (x := x) (by rw [he]; simp)
      rw [List.map_cons, List.sum_cons] at hp
      rw [mapOf] at hn
      have ih := ih (pre ++ [x]) _ (p + wr types words x) p3 (by omega) hn
      rw [p4] at ih
      have ht4 : wrap64 (Int.tdiv (rd words (m : Int)) 4) = rd words (m : Int) / 4 := by rw [tdiv4 h2, w64 (by omega) (by omega)]
      refine Ev.step (fun k => by rw [impl_Minor.p20]) ?_
      rw [p2, e2, w64s (i := pre.length) (by omega), ht4]
      have hkk : rdOf ByteArray.empty types (rd words (m : Int) / 4) = kindsAt types (rd words m) := rfl
      rw [hkk, w64 (x := 1 + ((kindsAt types (rd words (m : Int))).size : Int)) (by omega) (by omega), w64 (x := (p : Int) + (1 + ((kindsAt types (rd words (m : Int))).size : Int))) (by omega) (by omega)]
      rw [show (p : Int) + (1 + ((kindsAt types (rd words (m : Int))).size : Int)) = ((p + wr types words x : Nat) : Int) from by omega]
      exact Ev.pos (by omega) (Ev.pos (by omega) (Ev.pos (by omega) (Ev.bindo (youngRef_f p (by omega)) (Ev.pos (by omega) (Ev.pos (by omega) (Ev.pos (by omega) (Ev.pos h4 ih)))))))
  exact l1 out [] _ 0 rfl (by omega) hMM
theorem minorR_lengths (types : List ByteArray) (sz : Int) (words roots : List Int) (hi : ∀ x ∈ words, -9223372036854775808 ≤ x ∧ x ≤ 9223372036854775807) : (minorR types sz words roots).2.1.length ≤ 400 ∧ (minorR types sz words roots).2.2.1.length ≤ 400 := by
  unfold minorR
  by_cases c : (closR types sz words roots).2 = true
  · rw [if_pos c]
    obtain ⟨st, hst, hrl, hro, e2⟩ := closR_yes c
    have C := cloF_of hst hi hro
    rw [e2]
    have := newW_length C (closureP types words roots) (toP types words (closureP types words roots)) (closureP types words roots) (fun _ h => h)
    have h1 := C.sum
    have h2 := C.wl
    exact ⟨by simp only []; omega, by simp only [List.length_map]; omega⟩
  · rw [if_neg c]
    exact ⟨Nat.zero_le _, Nat.zero_le _⟩
end Go.Proofs.YtgfeafcgpeclcaaDoor.Abs.Pu
namespace Go.Proofs.YtgfeafcgpeclcaaDoor.Abs.Pu
open Go Go.RowKit
set_option linter.unusedVariables false
set_option linter.unusedSectionVars false
set_option linter.unusedSimpArgs false
def posL (w : Int → Nat) : Nat → List Int → List Int
  | _, [] => []
  | p, x :: l => (p : Int) :: posL w (p + w x) l
theorem tos_pos (w : Int → Nat) : ∀ (l : List Int) (p : Nat), tos w p l = (posL w p l).map (fun p => 2 * p + 1)
  | [], _ => rfl
  | x :: l, p => by rw [tos, posL, List.map_cons, tos_pos w l]
theorem posL_length (w : Int → Nat) : ∀ (l : List Int) (p : Nat), (posL w p l).length = l.length
  | [], _ => rfl
  | x :: l, p => by rw [posL, List.length_cons, posL_length w l, List.length_cons]
theorem posL_bound (w : Int → Nat) (hw : ∀ x, 1 ≤ w x) : ∀ (l : List Int) (p : Nat), ∀ z ∈ posL w p l, (p : Int) ≤ z ∧ z < (p : Int) + ((l.map w).sum : Nat)
  | [], _, _, h => by cases h
  | x :: l, p, z, h => by
    rw [posL] at h
    rw [List.map_cons, List.sum_cons]
    have := hw x
    rcases List.mem_cons.1 h with rfl | h
    · omega
    · have := posL_bound w hw l _ z h
      omega
theorem posL_sorted (w : Int → Nat) (hw : ∀ x, 1 ≤ w x) : ∀ (l : List Int) (p : Nat), (posL w p l).Pairwise (· < ·)
  | [], _ => List.Pairwise.nil
  | x :: l, p => by
    rw [posL]
    refine List.Pairwise.cons (fun z hz => ?_) (posL_sorted w hw l _)
    have := posL_bound w hw l _ z hz
    have := hw x
    omega
theorem posL_append (w : Int → Nat) : ∀ (a b : List Int) (p : Nat), posL w p (a ++ b) = posL w p a ++ posL w (p + (a.map w).sum) b
  | [], _, _ => by simp [posL]
  | x :: a, b, p => by
    rw [List.cons_append, posL, posL_append w a b, posL, List.map_cons, List.sum_cons, List.cons_append, Nat.add_assoc]
theorem fwd1_inj : ∀ {f to : List Int}, to.Nodup → f.length = to.length → ∀ {x y : Int}, x ∈ f → y ∈ f → fwd1 x f to = fwd1 y f to → x = y
  | [], _, _, _, _, _, h, _, _ => by cases h
  | a :: f, [], _, h, _, _, _, _, _ => by simp at h
  | a :: f, b :: to, hn, hl, x, y, hx, hy, he => by
    rw [List.nodup_cons] at hn
    have hl : f.length = to.length := by simpa using hl
    have key : ∀ z ∈ f, fwd1 z f to ∈ to := fun z hz => by
      have : ∀ {f to : List Int}, f.length = to.length → z ∈ f → fwd1 z f to ∈ to := by
        intro f
        induction f with
        | nil => intro to _ h; cases h
        | cons a f ih =>
          intro to hl h
          cases to with
          | nil => simp at hl
          | cons b to =>
            rw [fwd1]
            by_cases c : a = z
            · rw [if_pos c]; simp
            · rw [if_neg c]
              refine List.mem_cons_of_mem _ (ih (by simpa using hl) ?_)
              rcases List.mem_cons.1 h with h | h
              · exact absurd h.symm c
              · exact h
      exact this hl hz
    rw [fwd1, fwd1] at he
    by_cases c1 : a = x
    · by_cases c2 : a = y
      · exact c1.symm.trans c2
      · rw [if_pos c1, if_neg c2] at he
        have : y ∈ f := by rcases List.mem_cons.1 hy with h | h; exact absurd h.symm c2; exact h
        exact absurd (he ▸ key y this) hn.1
    · have hxf : x ∈ f := by rcases List.mem_cons.1 hx with h | h; exact absurd h.symm c1; exact h
      by_cases c2 : a = y
      · rw [if_neg c1, if_pos c2] at he
        exact absurd (he ▸ key x hxf) hn.1
      · rw [if_neg c1, if_neg c2] at he
        exact fwd1_inj hn.2 hl hxf (by rcases List.mem_cons.1 hy with h | h; exact absurd h.symm c2; exact h) he
/-- Where the element after a part goes. -/
theorem fwd1_mid {x : Int} : ∀ (pre tpre : List Int) {l tl : List Int} {t : Int}, x ∉ pre → tpre.length = pre.length → fwd1 x (pre ++ x :: l) (tpre ++ t :: tl) = t
  | [], [], _, _, _, _, _ => by rw [List.nil_append, List.nil_append, fwd1, if_pos rfl]
  | [], _ :: _, _, _, _, _, h => by simp at h
  | _ :: _, [], _, _, _, _, h => by simp at h
  | a :: pre, b :: tpre, l, tl, t, h, hl => by
    rw [List.cons_append, List.cons_append, fwd1, if_neg (fun e => h (by simp [e]))]
    exact fwd1_mid pre tpre (fun hm => h (List.mem_cons_of_mem _ hm)) (by simpa using hl)
theorem newW_append (types : List ByteArray) (words f to : List Int) : ∀ a b : List Int, newW types words f to (a ++ b) = newW types words f to a ++ newW types words f to b
  | [], _ => rfl
  | x :: a, b => by rw [List.cons_append, newW, newW_append types words f to a b, newW, List.append_assoc]
theorem ageUp_facts {h : Int} (h0 : 0 ≤ h) : 0 ≤ ageUp h ∧ ageUp h / 4 = h / 4 := by
  unfold ageUp
  split <;> omega
theorem kinds_ageUp (types : List ByteArray) {h : Int} (h0 : 0 ≤ h) : kindsAt types (ageUp h) = kindsAt types h := by
  unfold kindsAt
  rw [(ageUp_facts h0).2]
theorem rd_at {a b : List Int} {v : Int} : rd (a ++ v :: b) (a.length : Int) = v := by
  have hl : a.length < (a ++ v :: b).length := by simp
  rw [rd_get hl, List.getElem_append_right (Nat.le_refl _)]
  simp
theorem vals_mid {a b F : List Int} {v : Int} : (((a ++ v :: F) ++ b).take (a.length + 1 + F.length)).drop (a.length + 1) = F := by
  have e : (a ++ v :: F) ++ b = (a ++ [v]) ++ (F ++ b) := by simp
  rw [e, List.take_append, List.drop_append]
  have h1 : (a ++ [v]).length = a.length + 1 := by simp
  rw [h1, List.take_of_length_le (by rw [h1]; omega), List.drop_eq_nil_of_le (by rw [h1]; omega), List.nil_append]
  rw [h1, Nat.sub_self, List.drop_zero, show a.length + 1 + F.length - (a.length + 1) = F.length from by omega, List.take_left]
/-- One found object in the new nursery. -/
theorem CloF.new_at {types : List ByteArray} {words roots out : List Int} (C : CloF types words roots out) {x : Int} (hx : x ∈ out) : ∃ P : Nat, fwd1 x out (toP types words out) = 2 * (P : Int) + 1 ∧ P + wr types words x ≤ (out.map (wr types words)).sum ∧ (P : Int) ∈ posL (wr types words) 0 out ∧ rd (newW types words out (toP types words out) out) (P : Int) = ageUp (rd words (x / 2)) ∧ valsAt types (newW types words out (toP types words out) out) P = fwdV (kindsAt types (rd words (x / 2))) out (toP types words out) 0 (valsAt types words (x / 2).toNat) := by
  obtain ⟨pre, l, he⟩ := List.append_of_mem hx
  obtain ⟨m, e1, _, h1, h2, _, h4, _, hf, hv, hk, hw⟩ := C.at_ hx
  have hpre : ∀ y ∈ pre, y ∈ out := fun y hy => by rw [he]; simp [hy]
  have hnp : x ∉ pre := fun h => by
    have := C.nd
    rw [he, List.nodup_append] at this
    exact this.2.2 x h x (by simp) rfl
  have hto : toP types words out = (tos (wr types words) 0 pre) ++ (2 * (((pre.map (wr types words)).sum : Nat) : Int) + 1) :: tos (wr types words) ((pre.map (wr types words)).sum + wr types words x) l := by
    unfold toP
    rw [he, tos_pos, tos_pos, tos_pos, posL_append, List.map_append, posL, List.map_cons, Nat.zero_add]
  have hP : (newW types words out (toP types words out) pre).length = (pre.map (wr types words)).sum := newW_length C _ _ pre hpre
  have hW : newW types words out (toP types words out) out = (newW types words out (toP types words out) pre ++ ageUp (rd words (x / 2)) :: fwdV (kindsAt types (rd words (x / 2))) out (toP types words out) 0 (valsAt types words (x / 2).toNat)) ++ newW types words out (toP types words out) l := by
    have : newW types words out (toP types words out) out = newW types words out (toP types words out) (pre ++ x :: l) := by rw [← he]
    rw [this, newW_append, newW, List.append_assoc]
  refine ⟨(pre.map (wr types words)).sum, ?_, ?_, ?_, ?_, ?_⟩
  · rw [hto]
    have h := fwd1_mid (l := l) pre (tos (wr types words) 0 pre) (t := 2 * (((pre.map (wr types words)).sum : Nat) : Int) + 1) (tl := tos (wr types words) ((pre.map (wr types words)).sum + wr types words x) l) hnp (tos_length _ _ _)
    rw [← he] at h
    exact h
  · rw [he, List.map_append, List.sum_append, List.map_cons, List.sum_cons]
    omega
  · rw [he, posL_append, posL, Nat.zero_add]
    simp
  · rw [hW, ← hP, List.append_assoc, List.cons_append, rd_at]
  · have hr : rd (newW types words out (toP types words out) out) (((pre.map (wr types words)).sum : Nat) : Int) = ageUp (rd words (x / 2)) := by
      rw [hW, ← hP, List.append_assoc, List.cons_append, rd_at]
    have hun : ∀ (W : List Int) (P : Nat), valsAt types W P = (W.take (P + 1 + (kindsAt types (rd W P)).size)).drop (P + 1) := fun _ _ => rfl
    rw [hun, hr, e1, kinds_ageUp types h2, Int.toNat_natCast]
    have hfl := fwdV_length (kindsAt types (rd words (m : Int))) out (toP types words out) (valsAt types words m) 0
    rw [hW, e1, Int.toNat_natCast, ← hP, ← hv, ← hfl]
    exact vals_mid
theorem parse_new {types : List ByteArray} {words roots out : List Int} (C : CloF types words roots out) (f to W : List Int) : ∀ (l acc : List Int) (d : Nat), (∀ x ∈ l, x ∈ out) → W = acc ++ newW types words f to l → l.length ≤ d → parseFrom types W d acc.length = some (posL (wr types words) acc.length l)
  | [], acc, d, _, hW, hd => by
    rw [newW, List.append_nil] at hW
    cases d with
    | zero => rw [parseFrom, if_neg (by rw [hW]; omega), posL]
    | succ d => rw [parseFrom, if_neg (by rw [hW]; omega), posL]
  | x :: l, acc, 0, _, _, hd => by simp at hd
  | x :: l, acc, d + 1, hl, hW, hd => by
    obtain ⟨m, e1, _, h1, h2, _, h4, _, hf, hv, hk, hw⟩ := C.at_ (hl x (by simp))
    rw [newW, e1, Int.toNat_natCast] at hW
    have hfl := fwdV_length (kindsAt types (rd words (m : Int))) f to (valsAt types words m) 0
    have hr : rd W (acc.length : Int) = ageUp (rd words (m : Int)) := by
      rw [hW, List.cons_append, rd_at]
    have hWl : W.length = acc.length + 1 + (valsAt types words m).length + (newW types words f to l).length := by
      rw [hW, List.length_append, List.length_append, List.length_cons, hfl]; omega
    have ih := parse_new C f to W l (acc ++ ageUp (rd words (m : Int)) :: fwdV (kindsAt types (rd words (m : Int))) f to 0 (valsAt types words m)) d (fun y hy => hl y (List.mem_cons_of_mem _ hy)) (by rw [hW, List.append_assoc]) (by simpa using hd)
    have hal : (acc ++ ageUp (rd words (m : Int)) :: fwdV (kindsAt types (rd words (m : Int))) f to 0 (valsAt types words m)).length = acc.length + wr types words x := by
      rw [List.length_append, List.length_cons, hfl, hw, hv]; omega
    rw [hal] at ih
    obtain ⟨a0, a1⟩ := ageUp_facts h2
    rw [parseFrom, if_pos (by omega), hr, kinds_ageUp types h2, if_pos ⟨a0, by rw [a1]; exact h4, by omega⟩, show acc.length + 1 + (kindsAt types (rd words (m : Int))).size = acc.length + wr types words x from by omega, ih, posL]
    rfl
theorem nurB_of {types : List ByteArray} {words st : List Int} : ∀ {l : List Int}, (∀ h ∈ l, objB st (kindsAt types (rd words h)) 0 (valsAt types words h.toNat) = true) → nurB types words st l = true
  | [], _ => rfl
  | x :: l, h => by
    rw [nurB, h x (by simp), Bool.true_and]
    exact nurB_of (fun y hy => h y (List.mem_cons_of_mem _ hy))
theorem wr_pos (types : List ByteArray) (words : List Int) (x : Int) : 1 ≤ wr types words x := by unfold wr wt; omega
theorem posL_has (w : Int → Nat) {z : Int} : ∀ (l : List Int) (p : Nat), z ∈ posL w p l → ∃ pre x l', l = pre ++ x :: l' ∧ z = ((p + (pre.map w).sum : Nat) : Int)
  | [], _, h => by cases h
  | x :: l, p, h => by
    rw [posL] at h
    rcases List.mem_cons.1 h with rfl | h
    · exact ⟨[], x, l, rfl, by simp⟩
    · obtain ⟨pre, y, l', he, hz⟩ := posL_has w l _ h
      exact ⟨x :: pre, y, l', by rw [he]; rfl, by rw [hz, List.map_cons, List.sum_cons, Nat.add_assoc]⟩
theorem CloF.to_nodup {types : List ByteArray} {words roots out : List Int} (C : CloF types words roots out) : (toP types words out).Nodup := by
  unfold toP
  rw [tos_pos, List.Nodup, List.pairwise_map]
  exact (posL_sorted _ (wr_pos types words) out 0).imp (fun h => by omega)
theorem CloF.to_length {types : List ByteArray} {words roots out : List Int} (C : CloF types words roots out) : (toP types words out).length = out.length := tos_length _ _ _
theorem CloF.inj {types : List ByteArray} {words roots out : List Int} (C : CloF types words roots out) {x y : Int} (hx : x ∈ out) (hy : y ∈ out) (h : fwd1 x out (toP types words out) = fwd1 y out (toP types words out)) : x = y := fwd1_inj C.to_nodup C.to_length.symm hx hy h
/-- Where a reference goes: its kind stays. -/
theorem CloF.go_young {types : List ByteArray} {words roots out : List Int} (C : CloF types words roots out) {x : Int} (hx : x ∈ out) : refk (fwd1 x out (toP types words out)) = 2 ∧ fwd1 x out (toP types words out) / 2 ∈ posL (wr types words) 0 out := by
  obtain ⟨P, hP, hle, hm, _, _⟩ := C.new_at hx
  have h1 := C.sum
  have h2 := C.wl
  have h3 := wr_pos types words x
  rw [hP, show (2 * (P : Int) + 1) / 2 = (P : Int) from by omega]
  refine ⟨?_, hm⟩
  unfold refk
  rw [if_neg (by omega), if_neg (by omega), if_pos (by omega)]
theorem CloF.go_other {types : List ByteArray} {words roots out : List Int} (C : CloF types words roots out) {x : Int} (hx : refk x ≠ 2) : fwd1 x out (toP types words out) = x := fwd1_not (fun h => hx (C.young x h).1)
/-- The new nursery is right. -/
theorem CloF.new_heads {types : List ByteArray} {words roots out : List Int} {sz : Int} (C : CloF types words roots out) (h2 : 2 ≤ sz ∧ sz ≤ 400) (hl : (words.length : Int) ≤ sz) : headsR types sz (newW types words out (toP types words out) out) = some (posL (wr types words) 0 out) := by
  have hWl := newW_length C out (toP types words out) out (fun _ h => h)
  have hsum := C.sum
  have hp := parse_new C out (toP types words out) (newW types words out (toP types words out) out) out [] (newW types words out (toP types words out) out).length (fun _ h => h) rfl (by
    rw [hWl]
    have : ∀ l : List Int, l.length ≤ (l.map (wr types words)).sum := fun l => by
      induction l with
      | nil => exact Nat.zero_le _
      | cons x l ih =>
        have := wr_pos types words x
        rw [List.map_cons, List.sum_cons, List.length_cons]; omega
    exact this out)
  rw [List.length_nil] at hp
  unfold headsR parsed
  rw [if_pos ⟨C.ht, h2, by omega⟩, hp]
  simp only [Option.bind_some]
  rw [if_pos]
  refine nurB_of (fun z hz => objB_of _ 0 (fun q hq hb => ?_))
  obtain ⟨pre, x, l', he, hzz⟩ := posL_has _ _ _ hz
  have hx : x ∈ out := by rw [he]; simp
  have hnp : x ∉ pre := fun h => by
    have := C.nd
    rw [he, List.nodup_append] at this
    exact this.2.2 x h x (by simp) rfl
  obtain ⟨P, hP, _, _, hrd, hvl⟩ := C.new_at hx
  have hzP : z = (P : Int) := by
    have hto : toP types words out = (tos (wr types words) 0 pre) ++ (2 * (((pre.map (wr types words)).sum : Nat) : Int) + 1) :: tos (wr types words) ((pre.map (wr types words)).sum + wr types words x) l' := by
      unfold toP
      rw [he, tos_pos, tos_pos, tos_pos, posL_append, List.map_append, posL, List.map_cons, Nat.zero_add]
    have h := fwd1_mid (l := l') pre (tos (wr types words) 0 pre) (t := 2 * (((pre.map (wr types words)).sum : Nat) : Int) + 1) (tl := tos (wr types words) ((pre.map (wr types words)).sum + wr types words x) l') hnp (tos_length _ _ _)
    rw [← he, ← hto, hP] at h
    omega
  obtain ⟨m, e1, _, h1, h2', _, h4, _, hf, hv, hk, hw⟩ := C.at_ hx
  have hcl := C.closed x hx
  have hok := C.ok x hx
  subst hzP
  revert q
  rw [Int.toNat_natCast, hvl, hrd, e1, kinds_ageUp types h2', Int.toNat_natCast]
  rw [e1, Int.toNat_natCast] at hcl hok
  intro q hq hb
  have hq' : q < (valsAt types words m).length := by rw [fwdV_length] at hq; exact hq
  rw [Nat.zero_add] at hb
  rw [fwdV_get _ _ _ _ _ _ hq', Nat.zero_add, if_pos hb]
  have a1 := hcl q hq' hb
  have a2 := hok q hq' hb
  generalize (valsAt types words m)[q] = v at *
  unfold refOk
  by_cases c : refk v = 2
  · obtain ⟨g1, g2⟩ := C.go_young (a1 c)
    simp only [g1, g2, decide_true, Bool.and_true, Bool.or_true]
  · rw [C.go_other c]
    rcases refk_cases v with h | h | h | h
    · rw [h]; rfl
    · rw [h]; rfl
    · exact absurd h c
    · omega
theorem CloF.new_ints {types : List ByteArray} {words roots out : List Int} (C : CloF types words roots out) : ∀ x ∈ newW types words out (toP types words out) out, -9223372036854775808 ≤ x ∧ x ≤ 9223372036854775807 := by
  have key : ∀ l : List Int, (∀ x ∈ l, x ∈ out) → ∀ y ∈ newW types words out (toP types words out) l, -9223372036854775808 ≤ y ∧ y ≤ 9223372036854775807 := by
    intro l
    induction l with
    | nil => intro _ y hy; cases hy
    | cons x l ih =>
      intro hl y hy
      have hx := hl x (by simp)
      obtain ⟨m, e1, _, h1, h2, h3, h4, h5, hf, hv, hk, hw⟩ := C.at_ hx
      rw [newW, List.mem_append, List.mem_cons, e1, Int.toNat_natCast] at hy
      rcases hy with (rfl | hy) | hy
      · unfold ageUp
        split <;> omega
      · obtain ⟨q, hq, rfl⟩ := List.getElem_of_mem hy
        have hq' : q < (valsAt types words m).length := by rw [fwdV_length] at hq; exact hq
        rw [fwdV_get _ _ _ _ _ _ hq']
        have hvm : -9223372036854775808 ≤ (valsAt types words m)[q] ∧ (valsAt types words m)[q] ≤ 9223372036854775807 := C.ints _ (List.mem_of_mem_take (List.mem_of_mem_drop (List.getElem_mem hq')))
        split
        · by_cases c : (valsAt types words m)[q] ∈ out
          · obtain ⟨P, hP, hle, _, _, _⟩ := C.new_at c
            have g1 := C.sum
            have g2 := C.wl
            rw [hP]
            omega
          · rw [fwd1_not c]; exact hvm
        · exact hvm
      · exact ih (fun z hz => hl z (List.mem_cons_of_mem _ hz)) y hy
  exact key out (fun _ h => h)
end Go.Proofs.YtgfeafcgpeclcaaDoor.Abs.Pu
namespace Go.Proofs.YtgfeafcgpeclcaaDoor.Abs.Pu
open Go Go.RowKit
set_option linter.unusedVariables false
set_option linter.unusedSectionVars false
set_option linter.unusedSimpArgs false
theorem fwd1_same (x : Int) : ∀ l : List Int, fwd1 x l l = x
  | [] => rfl
  | a :: l => by
    rw [fwd1]
    by_cases c : a = x
    · rw [if_pos c]; exact c
    · rw [if_neg c]; exact fwd1_same x l
theorem fwd1_map : ∀ {f to : List Int}, f.Nodup → f.length = to.length → f.map (fun x => fwd1 x f to) = to
  | [], [], _, _ => rfl
  | [], _ :: _, _, h => by simp at h
  | _ :: _, [], _, h => by simp at h
  | a :: f, b :: to, hn, hl => by
    rw [List.nodup_cons] at hn
    rw [List.map_cons]
    have h1 : fwd1 a (a :: f) (b :: to) = b := by rw [fwd1, if_pos rfl]
    have h2 : f.map (fun x => fwd1 x (a :: f) (b :: to)) = f.map (fun x => fwd1 x f to) := by
      refine List.map_congr_left (fun x hx => ?_)
      rw [fwd1, if_neg (fun (e : a = x) => hn.1 (by rw [e]; exact hx))]
    rw [h1, h2, fwd1_map hn.2 (by simpa using hl)]
section
variable {types : List ByteArray} {words roots out : List Int} (C : CloF types words roots out)
/-- Where a reference goes. -/
def gof (types : List ByteArray) (words out : List Int) (x : Int) : Int := fwd1 x out (toP types words out)
def newWs (types : List ByteArray) (words out : List Int) : List Int := newW types words out (toP types words out) out
include C
theorem CloF.map_go : out.map (gof types words out) = toP types words out := fwd1_map C.nd C.to_length.symm
theorem CloF.see_iso {o : List Int} {x : Int} (ho : ∀ y ∈ o, y ∈ out) (hx : refk x = 2 → x ∈ out) : seeP (o.map (gof types words out)) (gof types words out x) = (seeP o x).map (gof types words out) ∧ ∀ y ∈ seeP o x, y ∈ out := by
  unfold seeP
  by_cases c : refk x = 2
  · have hxo := hx c
    have h1 : refk (gof types words out x) = 2 := (C.go_young hxo).1
    by_cases c2 : x ∈ o
    · have h2 : gof types words out x ∈ o.map (gof types words out) := List.mem_map.2 ⟨x, c2, rfl⟩
      rw [if_neg (fun h => h.2 h2), if_neg (fun h => h.2 c2)]
      exact ⟨rfl, ho⟩
    · have h2 : gof types words out x ∉ o.map (gof types words out) := fun h => by
        obtain ⟨y, hy, e⟩ := List.mem_map.1 h
        have := C.inj (ho y hy) hxo e
        exact c2 (this ▸ hy)
      rw [if_pos ⟨h1, h2⟩, if_pos ⟨c, c2⟩]
      refine ⟨by simp, fun y hy => ?_⟩
      rcases List.mem_append.1 hy with hy | hy
      · exact ho y hy
      · simp only [List.mem_singleton] at hy
        subst hy
        exact hxo
  · have h1 : gof types words out x = x := C.go_other c
    rw [h1, if_neg (fun h => c h.1), if_neg (fun h => c h.1)]
    exact ⟨rfl, ho⟩
theorem CloF.fold_iso : ∀ (l o : List Int), (∀ y ∈ o, y ∈ out) → (∀ x ∈ l, refk x = 2 → x ∈ out) → (l.map (gof types words out)).foldl seeP (o.map (gof types words out)) = (l.foldl seeP o).map (gof types words out) ∧ ∀ y ∈ l.foldl seeP o, y ∈ out
  | [], o, ho, _ => ⟨rfl, ho⟩
  | x :: l, o, ho, hl => by
    obtain ⟨h1, h2⟩ := C.see_iso ho (hl x (by simp))
    rw [List.map_cons, List.foldl_cons, List.foldl_cons, h1]
    exact CloF.fold_iso l (seeP o x) h2 (fun y hy => hl y (List.mem_cons_of_mem _ hy))
theorem CloF.vals_iso (t : ByteArray) : ∀ (l : List Int) (i : Nat) (o : List Int), (∀ y ∈ o, y ∈ out) → (∀ q (hq : q < l.length), bt t ((i + q : Nat) : Int) = 114 → refk l[q] = 2 → l[q] ∈ out) → valsP t i (fwdV t out (toP types words out) i l) (o.map (gof types words out)) = (valsP t i l o).map (gof types words out) ∧ ∀ y ∈ valsP t i l o, y ∈ out
  | [], i, o, ho, _ => ⟨rfl, ho⟩
  | x :: l, i, o, ho, hl => by
    have hl' : ∀ q (hq : q < l.length), bt t ((i + 1 + q : Nat) : Int) = 114 → refk l[q] = 2 → l[q] ∈ out := fun q hq hb hr => hl (q + 1) (by simpa using hq) (by rw [show i + (q + 1) = i + 1 + q from by omega]; exact hb) hr
    rw [fwdV, valsP, valsP]
    by_cases c : bt t (i : Int) = 114
    · rw [if_pos c, if_pos c, if_pos c]
      obtain ⟨h1, h2⟩ := C.see_iso ho (fun hr => hl 0 (by simp) (by simpa using c) hr)
      rw [show fwd1 x out (toP types words out) = gof types words out x from rfl, h1]
      exact CloF.vals_iso t l (i + 1) (seeP o x) h2 hl'
    · rw [if_neg c, if_neg c]
      exact CloF.vals_iso t l (i + 1) o ho hl'
/-- One found object, by its new reference. -/
theorem CloF.new_word {x : Int} (hx : x ∈ out) : ∃ P : Nat, gof types words out x = 2 * (P : Int) + 1 ∧ gof types words out x / 2 = P ∧ rd (newWs types words out) (P : Int) = ageUp (rd words (x / 2)) ∧ kindsAt types (rd (newWs types words out) (P : Int)) = kindsAt types (rd words (x / 2)) ∧ valsAt types (newWs types words out) P = fwdV (kindsAt types (rd words (x / 2))) out (toP types words out) 0 (valsAt types words (x / 2).toNat) ∧ wr types (newWs types words out) (gof types words out x) = wr types words x ∧ 0 ≤ rd words (x / 2) := by
  obtain ⟨P, hP, _, _, hrd, hvl⟩ := C.new_at hx
  obtain ⟨m, e1, _, h1, h2', _, h4, _, hf, hv, hk, hw⟩ := C.at_ hx
  have hP2 : gof types words out x / 2 = (P : Int) := by
    show fwd1 x out (toP types words out) / 2 = _
    rw [hP]; omega
  have h0 : 0 ≤ rd words (x / 2) := by rw [e1]; exact h2'
  have hkk : kindsAt types (rd (newWs types words out) (P : Int)) = kindsAt types (rd words (x / 2)) := by
    show kindsAt types (rd (newW types words out (toP types words out) out) (P : Int)) = _
    rw [hrd, kinds_ageUp types h0]
  refine ⟨P, hP, hP2, hrd, hkk, hvl, ?_, h0⟩
  unfold wr wt
  rw [hP2, hkk]
theorem CloF.close_iso : ∀ (d i : Nat) (o : List Int), (∀ y ∈ o, y ∈ out) → closeP types (newWs types words out) d i (o.map (gof types words out)) = (closeP types words d i o).map (gof types words out)
  | 0, i, o, ho => rfl
  | d + 1, i, o, ho => by
    rw [closeP, closeP]
    have hml : (o.map (gof types words out)).length = o.length := by simp
    by_cases c : i < o.length
    · rw [if_pos (by omega), if_pos c]
      have hx : rd o (i : Int) ∈ out := ho _ (by rw [rd_get c]; exact List.getElem_mem c)
      have hr : rd (o.map (gof types words out)) (i : Int) = gof types words out (rd o (i : Int)) := by
        rw [rd_get (by omega), rd_get c, List.getElem_map]
      obtain ⟨P, _, hP2, _, hkk, hvl, _, _⟩ := C.new_word hx
      rw [hr, hP2, Int.toNat_natCast, hkk, hvl]
      obtain ⟨h1, h2⟩ := C.vals_iso (kindsAt types (rd words (rd o (i : Int) / 2))) (valsAt types words (rd o (i : Int) / 2).toNat) 0 o ho (fun q hq hb hr => C.closed _ hx q hq (by simpa using hb) hr)
      rw [h1]
      exact CloF.close_iso d (i + 1) _ h2
    · rw [if_neg (by omega), if_neg c]
theorem CloF.tos_iso : ∀ (l : List Int) (p : Nat), (∀ x ∈ l, x ∈ out) → tos (wr types (newWs types words out)) p (l.map (gof types words out)) = tos (wr types words) p l ∧ posL (wr types (newWs types words out)) p (l.map (gof types words out)) = posL (wr types words) p l ∧ ((l.map (gof types words out)).map (wr types (newWs types words out))).sum = (l.map (wr types words)).sum
  | [], _, _ => ⟨rfl, rfl, rfl⟩
  | x :: l, p, hl => by
    obtain ⟨P, _, _, _, _, _, hw, _⟩ := C.new_word (hl x (by simp))
    obtain ⟨h1, h2, h3⟩ := CloF.tos_iso l (p + wr types words x) (fun y hy => hl y (List.mem_cons_of_mem _ hy))
    refine ⟨?_, ?_, ?_⟩
    · rw [List.map_cons, tos, tos, hw, h1]
    · rw [List.map_cons, posL, posL, hw, h2]
    · rw [List.map_cons, List.map_cons, List.sum_cons, hw, h3, List.map_cons, List.sum_cons]
theorem CloF.pos_eq : posL (wr types words) 0 out = out.map (fun x => gof types words out x / 2) := by
  have h := C.map_go
  have h2 : toP types words out = (posL (wr types words) 0 out).map (fun p => 2 * p + 1) := tos_pos _ _ _
  have h3 : (out.map (gof types words out)).map (· / 2) = ((posL (wr types words) 0 out).map (fun p => 2 * p + 1)).map (· / 2) := by rw [h, h2]
  rw [List.map_map, List.map_map] at h3
  have h4 : (posL (wr types words) 0 out).map ((· / 2) ∘ fun p => 2 * p + 1) = posL (wr types words) 0 out := by
    have : ((· / 2) ∘ fun p : Int => 2 * p + 1) = id := by
      funext p
      show (2 * p + 1) / 2 = p
      omega
    rw [this, List.map_id]
  rw [h4] at h3
  exact h3.symm
end
/-- What the second collection makes. -/
theorem minor_twice {types : List ByteArray} {sz : Int} {words roots st : List Int} (hst : headsR types sz words = some st) (hi : ∀ x ∈ words, -9223372036854775808 ≤ x ∧ x ≤ 9223372036854775807) (hro : ∀ x ∈ roots, refOk st x = true) (hrl : roots.length ≤ 400) (h2 : 2 ≤ sz ∧ sz ≤ 400) (hl : (words.length : Int) ≤ sz) :
    ∃ out W to, out = closureP types words roots ∧ to = toP types words out ∧ W = newWs types words out ∧ CloF types words roots out ∧ to = out.map (gof types words out) ∧ toP types W to = to ∧ CloF types W (roots.map (gof types words out)) to ∧ minorR types sz W (roots.map (gof types words out)) = (sz, newWs types W to, roots.map (gof types words out), true) ∧ headsR types sz W = some (posL (wr types words) 0 out) ∧ headsR types sz (newWs types W to) = some (posL (wr types words) 0 out) ∧ (newWs types W to).length = W.length ∧ W.length ≤ words.length ∧ posL (wr types W) 0 to = posL (wr types words) 0 out := by
  have C := cloF_of hst hi hro
  have hH : headsR types sz (newWs types words (closureP types words roots)) = _ := C.new_heads h2 hl
  have hrr : ∀ y ∈ roots.map (gof types words (closureP types words roots)), refOk (posL (wr types words) 0 (closureP types words roots)) y = true := by
    intro y hy
    obtain ⟨x, hx, rfl⟩ := List.mem_map.1 hy
    unfold refOk
    by_cases c : refk x = 2
    · obtain ⟨g1, g2⟩ := C.go_young (C.rin x hx c)
      have e : gof types words (closureP types words roots) x = fwd1 x (closureP types words roots) (toP types words (closureP types words roots)) := rfl
      rw [e, g1]
      simp only [g2, decide_true, Bool.and_true, Bool.or_true]
    · have e : gof types words (closureP types words roots) x = x := C.go_other c
      have := C.rok x hx
      rw [e]
      rcases refk_cases x with h | h | h | h
      · rw [h]; rfl
      · rw [h]; rfl
      · exact absurd h c
      · omega
  have hclo : closureP types (newWs types words (closureP types words roots)) (roots.map (gof types words (closureP types words roots))) = toP types words (closureP types words roots) := by
    obtain ⟨f1, f2⟩ := C.fold_iso roots [] (fun _ h => by cases h) C.rin
    have := C.close_iso 401 0 (roots.foldl seeP []) f2
    rw [← C.map_go]
    show closeP types _ 401 0 (List.foldl seeP [] _) = _
    rw [List.map_nil] at f1
    rw [f1, this]
    rfl
  have C2 := cloF_of hH C.new_ints hrr
  rw [hclo] at C2
  have hto : toP types (newWs types words (closureP types words roots)) (toP types words (closureP types words roots)) = toP types words (closureP types words roots) := by
    have := (C.tos_iso _ 0 (fun _ h => h)).1
    rw [C.map_go] at this
    exact this
  have hpos := (C.tos_iso _ 0 (fun _ h => h)).2.1
  have hsum := (C.tos_iso _ 0 (fun _ h => h)).2.2
  rw [C.map_go] at hpos hsum
  have hW : (newWs types words (closureP types words roots)).length = _ := newW_length C _ _ _ (fun _ h => h)
  have hWs := C.sum
  have hH2 : headsR types sz (newWs types (newWs types words (closureP types words roots)) (toP types words (closureP types words roots))) = _ := C2.new_heads h2 (by omega)
  rw [hpos] at hH2
  have hW2 : (newWs types (newWs types words (closureP types words roots)) (toP types words (closureP types words roots))).length = _ := newW_length C2 _ _ _ (fun _ h => h)
  refine ⟨_, _, _, rfl, rfl, rfl, C, C.map_go.symm, hto, C2, ?_, hH, hH2, by omega, by omega, hpos⟩
  unfold minorR
  have hc : closR types sz (newWs types words (closureP types words roots)) (roots.map (gof types words (closureP types words roots))) = (toP types words (closureP types words roots), true) := by
    unfold closR
    rw [hH]
    simp only []
    rw [if_pos (by simpa using hrl), if_pos (List.all_eq_true.2 hrr), hclo]
  rw [hc]
  simp only [if_true]
  rw [hto]
  have hid : (roots.map (gof types words (closureP types words roots))).map (fun x => fwd1 x (toP types words (closureP types words roots)) (toP types words (closureP types words roots))) = roots.map (gof types words (closureP types words roots)) := by
    rw [show (fun x => fwd1 x (toP types words (closureP types words roots)) (toP types words (closureP types words roots))) = id from funext fun x => fwd1_same x _, List.map_id]
  rw [hid]
  show (sz, newW types _ _ _ _, _, true) = (sz, newW types _ _ (toP types _ _) _, _, true)
  rw [hto]
end Go.Proofs.YtgfeafcgpeclcaaDoor.Abs.Pu
namespace Go.Proofs.YtgfeafcgpeclcaaDoor.Abs.Pu
open Go Go.RowKit
set_option linter.unusedVariables false
set_option linter.unusedSectionVars false
set_option linter.unusedSimpArgs false
def cnt (n : Int) : List Int → Int
  | [] => 0
  | x :: l => (if x = n then 1 else 0) + cnt n l
theorem cnt_range (n : Int) : ∀ l : List Int, 0 ≤ cnt n l ∧ cnt n l ≤ l.length
  | [] => ⟨by simp [cnt], by simp [cnt]⟩
  | x :: l => by
    have := cnt_range n l
    rw [cnt, List.length_cons]
    split <;> omega
def agesR (words : List Int) (st : List Int) : List Int := let l := st.map fun x => rd words x % 4; [cnt 0 l, cnt 1 l, cnt 2 l, cnt 3 l]
def upA (h : Int) : Int := if h + 1 < 3 then h + 1 else 3
theorem cnt_up : ∀ l : List Int, (∀ x ∈ l, 0 ≤ x ∧ x ≤ 3) → cnt 0 (l.map upA) = 0 ∧ cnt 0 ((l.map upA).map upA) = 0 ∧ cnt 1 ((l.map upA).map upA) = 0 ∧ cnt 2 ((l.map upA).map upA) = cnt 1 (l.map upA) ∧ cnt 3 ((l.map upA).map upA) = cnt 2 (l.map upA) + cnt 3 (l.map upA) ∧ cnt 1 (l.map upA) + cnt 2 (l.map upA) + cnt 3 (l.map upA) = l.length
  | [], _ => ⟨rfl, rfl, rfl, rfl, rfl, rfl⟩
  | x :: l, h => by
    obtain ⟨h1, h2, h3, h4, h5, h6⟩ := cnt_up l (fun y hy => h y (List.mem_cons_of_mem _ hy))
    have hx := h x (by simp)
    simp only [List.map_cons, cnt, List.length_cons, h1, h2, h3, h4, h5]
    obtain rfl | rfl | rfl | rfl : x = 0 ∨ x = 1 ∨ x = 2 ∨ x = 3 := by omega
    · simp [upA]; omega
    · simp [upA]; omega
    · simp [upA]; omega
    · simp [upA]; omega
theorem impl_Ages_ev (types : List ByteArray) (sz : Int) (words st : List Int) (hs : ∀ x ∈ types, x.size ≤ 1048576) (hw : ∀ x ∈ words, -9223372036854775808 ≤ x ∧ x ≤ 9223372036854775807) (hst : headsR types sz words = some st) : Ev (fun k => impl_Ages.f k types sz words) (agesR words st) := by
  unfold impl_Ages.f
  have e := impl_heads_ev types sz words hs hw
  rw [hst] at e
  refine Ev.bind e (Ev.pos rfl ?_)
  have hp : parsed types sz words = some st := by
    unfold headsR at hst
    cases h : parsed types sz words with
    | none => rw [h] at hst; cases hst
    | some s =>
      rw [h] at hst
      simp only [Option.bind_some] at hst
      split at hst
      · exact hst
      · cases hst
  obtain ⟨ht, hwl, hfit, _, hlen⟩ := parsed_facts hp
  simp only [finL, List.nil_append]
  have key : ∀ (l pre : List Int) (a b c d : Int), st = pre ++ l → (0 ≤ a ∧ a ≤ pre.length) → (0 ≤ b ∧ b ≤ pre.length) → (0 ≤ c ∧ c ≤ pre.length) → (0 ≤ d ∧ d ≤ pre.length) → Ev (fun k => impl_Ages.p18 k sz words [a, b, c, d] st (st.length : Int) (pre.length : Int)) [a + cnt 0 (l.map fun x => rd words x % 4), b + cnt 1 (l.map fun x => rd words x % 4), c + cnt 2 (l.map fun x => rd words x % 4), d + cnt 3 (l.map fun x => rd words x % 4)] := by
    intro l
    induction l with
    | nil =>
      intro pre a b c d he _ _ _ _
      have : st.length = pre.length := by rw [he]; simp
      refine Ev.step (fun k => by rw [impl_Ages.p18]) ?_
      exact Ev.neg (by omega) (Ev.eq (by simp [cnt]))
    | cons x l ih =>
      intro pre a b c d he ha hb hc hd
      have hpl : pre.length < st.length := by rw [he]; simp
      have hx : rd st (pre.length : Int) = x := by
        rw [rd_get hpl]
        simp only [he]
        rw [List.getElem_append_right (Nat.le_refl _)]
        simp
      obtain ⟨m, e', h1, h2, h3, h4⟩ := hfit x (by rw [he]; simp)
      have hih := fun a b c d => ih (pre ++ [x]) a b c d (by rw [he]; simp)
      have hpl2 : (pre ++ [x]).length = pre.length + 1 := by simp
      rw [hpl2] at hih
      have hr := rd_range hw h1
      refine Ev.step (fun k => by rw [impl_Ages.p18]) ?_
      rw [hx, e', Int.tmod_eq_emod_of_nonneg h2, w64s (i := pre.length) (by omega)]
      have h5 : rd words (m : Int) % 4 = 0 ∨ rd words (m : Int) % 4 = 1 ∨ rd words (m : Int) % 4 = 2 ∨ rd words (m : Int) % 4 = 3 := by omega
      refine Ev.pos (by omega) (Ev.pos (by omega) (Ev.pos (by omega) (Ev.pos (by omega) (Ev.pos (by omega) (Ev.pos (by omega) (Ev.pos (by simp only [List.length_cons, List.length_nil]; omega) (Ev.pos (by omega) (Ev.pos (by simp only [List.length_cons, List.length_nil]; omega) ?_))))))))
      have e5 : (rd words x % 4) = rd words (m : Int) % 4 := by rw [e']
      rw [List.map_cons, cnt, cnt, cnt, cnt, e', ← e'] at *
      simp only [e'] at *
      rcases h5 with h5 | h5 | h5 | h5
      · rw [h5]
        have := hih (a + 1) b c d (by omega) (by omega) (by omega) (by omega)
        have ew : wrap64 (rd [a, b, c, d] 0 + 1) = a + 1 := w64 (x := a + 1) (by omega) (by omega)
        rw [ew]
        refine Ev.val this ?_
        simp [h5]; omega
      · rw [h5]
        have := hih a (b + 1) c d (by omega) (by omega) (by omega) (by omega)
        have ew : wrap64 (rd [a, b, c, d] 1 + 1) = b + 1 := w64 (x := b + 1) (by omega) (by omega)
        rw [ew]
        refine Ev.val this ?_
        simp [h5]; omega
      · rw [h5]
        have := hih a b (c + 1) d (by omega) (by omega) (by omega) (by omega)
        have ew : wrap64 (rd [a, b, c, d] 2 + 1) = c + 1 := w64 (x := c + 1) (by omega) (by omega)
        rw [ew]
        refine Ev.val this ?_
        simp [h5]; omega
      · rw [h5]
        have := hih a b c (d + 1) (by omega) (by omega) (by omega) (by omega)
        have ew : wrap64 (rd [a, b, c, d] 3 + 1) = d + 1 := w64 (x := d + 1) (by omega) (by omega)
        rw [ew]
        refine Ev.val this ?_
        simp [h5]; omega
  have := key st [] 0 0 0 0 rfl (by simp) (by simp) (by simp) (by simp)
  refine Ev.val this ?_
  simp [agesR]
end Go.Proofs.YtgfeafcgpeclcaaDoor.Abs.Pu
namespace Go.Proofs.YtgfeafcgpeclcaaDoor.Abs
open Go Go.RowKit
set_option linter.unusedVariables false
set_option linter.unusedSectionVars false
set_option linter.unusedSimpArgs false

theorem or_low (a b : Nat) (ha : a % 256 = 0) (hb : b < 256) : a ||| b = a + b := by
  have hq : a = 2 ^ 8 * (a / 2 ^ 8) := by
    have := Nat.div_add_mod a (2 ^ 8)
    omega
  rw [hq, ← Nat.two_pow_add_eq_or_of_lt (by simpa using hb) (a / 2 ^ 8)]
theorem or8_u64 (x y : Int) (h0 : 0 ≤ x) (h1 : x < 18446744073709551616) (hx : x % 256 = 0) (hy : 0 ≤ y) (hy1 : y < 256) : Go.bits .or .u64 x y = x + y := by
  unfold Go.bits
  simp only [BitVec.toNat_or, BitVec.toNat_ofInt]
  rw [show IntKind.u64.bits = 64 from rfl, or_low _ _ (by omega) (by omega)]
  simp only [IntKind.wrap, IntKind.bits, IntKind.signed]
  simp
  omega
theorem or8_i64 (x y : Int) (h0 : -9223372036854775808 ≤ x) (h1 : x ≤ 9223372036854775807) (hx : x % 256 = 0) (hy : 0 ≤ y) (hy1 : y < 256) : Go.bits .or .i64 x y = x + y := by
  unfold Go.bits
  simp only [BitVec.toNat_or, BitVec.toNat_ofInt]
  rw [show IntKind.i64.bits = 64 from rfl, or_low _ _ (by omega) (by omega)]
  rw [IntKind.wrap_i64]
  omega

/-- The value of the first n bytes, the highest one first. -/
def be (f : Nat → Int) : Nat → Int
  | 0 => 0
  | n + 1 => be f n * 256 + f n
theorem be_range (f : Nat → Int) (hf : ∀ i, 0 ≤ f i ∧ f i ≤ 255) : ∀ n, 0 ≤ be f n ∧ be f n < 256 ^ n
  | 0 => by simp [be]
  | n + 1 => by
    have h := be_range f hf n
    have h2 := hf n
    simp only [be, Int.pow_succ]
    omega
theorem be_congr {f g : Nat → Int} (n : Nat) (h : ∀ i, i < n → f i = g i) : be f n = be g n := by
  induction n with
  | zero => rfl
  | succ n ih => simp only [be]; rw [ih (fun i hi => h i (by omega)), h n (by omega)]
theorem wrap64_mod (x y : Int) (h : x % 18446744073709551616 = y % 18446744073709551616) : wrap64 x = wrap64 y := by
  unfold wrap64
  omega
/-- The int64 in the eight bytes from place p on. -/
def wordv (s : ByteArray) (p : Nat) : Int := wrap64 (be (fun i => bt s ((p + i : Nat) : Int)) 8)
theorem bt_extract (s : ByteArray) (a b i : Nat) (h : a + i < b) (hb : b ≤ s.size) : bt (s.extract a b) (i : Int) = bt s ((a + i : Nat) : Int) := by
  have h1 : i < (s.extract a b).size := by rw [ByteArray.size_extract]; omega
  have h2 : a + i < s.size := by omega
  rw [← bt_at _ _ (by rw [Int.toNat_natCast]; exact h1), ← bt_at _ _ (by rw [Int.toNat_natCast]; exact h2)]
  simp only [Int.toNat_natCast]
  rw [ByteArray.getElem_extract]
/-- A step of reading: shifted by a byte, the next one laid in. -/
theorem be_step_u64 (f : Nat → Int) (hf : ∀ i, 0 ≤ f i ∧ f i ≤ 255) (n : Nat) (hn : n < 8) : Go.bits .or .u64 (IntKind.u64.wrap (be f n * 256)) (IntKind.u64.wrap (f n)) = be f (n + 1) := by
  have hr := be_range f hf n
  have h2 := hf n
  have h3 : (256 : Int) ^ n ≤ 256 ^ 7 := by
    obtain rfl | rfl | rfl | rfl | rfl | rfl | rfl | rfl : n = 0 ∨ n = 1 ∨ n = 2 ∨ n = 3 ∨ n = 4 ∨ n = 5 ∨ n = 6 ∨ n = 7 := by omega
    all_goals decide
  have h4 : be f n < 72057594037927936 := by have : (256 : Int) ^ 7 = 72057594037927936 := by decide
                                             omega
  have hw : ∀ x : Int, 0 ≤ x → x < 18446744073709551616 → IntKind.u64.wrap x = x := by
    intro x hx0 hx1
    simp [IntKind.wrap, IntKind.bits, IntKind.signed]
    omega
  rw [hw _ (by omega) (by omega), hw _ (by omega) (by omega), or8_u64 _ _ (by omega) (by omega) (by omega) h2.1 (by omega)]
  rfl
theorem be_step_i64 (f : Nat → Int) (hf : ∀ i, 0 ≤ f i ∧ f i ≤ 255) (n : Nat) : Go.bits .or .i64 (wrap64 (wrap64 (be f n) * 256)) (wrap64 (f n)) = wrap64 (be f (n + 1)) := by
  have h2 := hf n
  have hr := wrap64_range (wrap64 (be f n) * 256)
  have e : wrap64 (wrap64 (be f n) * 256) = wrap64 (be f n * 256) := wrap64_mod _ _ (by unfold wrap64; omega)
  have hd : wrap64 (be f n * 256) % 256 = 0 := by unfold wrap64; omega
  rw [e] at hr ⊢
  rw [w64 (x := f n) (by omega) (by omega), or8_i64 _ _ hr.1 hr.2 hd h2.1 (by omega)]
  simp only [be]
  unfold wrap64
  omega
end Go.Proofs.YtgfeafcgpeclcaaDoor.Abs
namespace Go.Proofs.YtgfeafcgpeclcaaDoor.Abs
open Go Go.RowKit
set_option linter.unusedVariables false
set_option linter.unusedSectionVars false
set_option linter.unusedSimpArgs false

/-- A code and a place in it. -/
structure Rd (l : List Int) (p : Int) : Prop where
  bytes : isBytes l
  len : l.length ≤ 1099511627776
  lo : 0 ≤ p
  hi : p ≤ l.length
theorem Rd.start {l : List Int} (hb : isBytes l) (hl : l.length ≤ 1099511627776) : Rd l 0 := ⟨hb, hl, by omega, by omega⟩
theorem next_f {l : List Int} {p : Int} (h : Rd l p) : ∃ b q, spec_l1Rd_next.f l p = some (l, q, b) ∧ 0 ≤ b ∧ b ≤ 255 ∧ Rd l q := by
  obtain ⟨hb, hl, h0, h1⟩ := h
  unfold spec_l1Rd_next.f
  by_cases c : p ≥ (l.length : Int)
  · exact ⟨0, p, by rw [if_pos c], by omega, by omega, hb, hl, h0, h1⟩
  · have hg := isBytes_getD hb p.toNat
    have e : rd l p = l.getD p.toNat 0 := rfl
    rw [if_neg c, w64 (x := p + 1) (by omega) (by omega), w64 (x := p + 1 - 1) (by omega) (by omega), show p + 1 - 1 = p from by omega, if_pos h0, if_pos (by omega), w64 (x := rd l p) (by omega) (by omega)]
    exact ⟨_, _, rfl, by omega, by omega, hb, hl, by omega, by omega⟩
theorem tmod_range {x n : Int} (hx : 0 ≤ x) (hn : 0 < n) : 0 ≤ Int.tmod x n ∧ Int.tmod x n < n := by
  rw [Int.tmod_eq_emod_of_nonneg hx]
  exact ⟨Int.emod_nonneg _ (by omega), Int.emod_lt_of_pos _ hn⟩
/-- below n: one of 0 .. n - 1. -/
theorem below_f {l : List Int} {p : Int} (h : Rd l p) (n : Int) (hn : 1 ≤ n) (hn2 : n ≤ 65536) : ∃ v q, spec_l1Rd_below.f l p n = some (l, q, v) ∧ 0 ≤ v ∧ v < n ∧ Rd l q := by
  unfold spec_l1Rd_below.f
  by_cases c : n ≤ 1
  · exact ⟨0, p, by rw [if_pos c], by omega, by omega, h⟩
  · rw [if_neg c]
    by_cases c2 : n ≤ 256
    · obtain ⟨b, q, e, h0, h1, hq⟩ := next_f h
      have hm := tmod_range h0 (show 0 < n by omega)
      rw [if_pos c2, e, Option.bind_some, if_neg (by omega)]
      exact ⟨_, _, rfl, hm.1, hm.2, hq⟩
    · obtain ⟨b, q, e, h0, h1, hq⟩ := next_f h
      obtain ⟨b2, q2, e2, h2, h3, hq2⟩ := next_f hq
      have hm := tmod_range (show 0 ≤ b * 256 + b2 by omega) (show 0 < n by omega)
      rw [if_neg c2, e, Option.bind_some]
      simp only []
      rw [e2, Option.bind_some, if_neg (by omega)]
      simp only []
      rw [w64 (x := b * 256) (by omega) (by omega), w64 (x := b * 256 + b2) (by omega) (by omega)]
      exact ⟨_, _, rfl, hm.1, hm.2, hq2⟩
theorem once_f {l : List Int} {p : Int} (h : Rd l p) (n : Int) (hn : 1 ≤ n) (hn2 : n ≤ 65536) : ∃ v q, spec_l1Rd_once.f l p n = some (l, q, v) ∧ Rd l q := by
  obtain ⟨v, q, e, _, _, hq⟩ := below_f h n hn hn2
  unfold spec_l1Rd_once.f
  rw [e, Option.bind_some]
  exact ⟨_, _, rfl, hq⟩
/-- word: a number of 64 bits. -/
theorem word_ev {l : List Int} {p : Int} (h : Rd l p) : ∃ v q, Ev (fun k => spec_l1Rd_word.f k l p) (l, q, v) ∧ 0 ≤ v ∧ v < 18446744073709551616 ∧ Rd l q := by
  have lp : ∀ (d i : Nat) (f : Nat → Int) (p : Int), 8 - i = d → i ≤ 8 → (∀ j, 0 ≤ f j ∧ f j ≤ 255) → Rd l p → ∃ v q, Ev (fun k => spec_l1Rd_word.p8 k l p (be f i) (i : Int)) (l, q, v) ∧ 0 ≤ v ∧ v < 18446744073709551616 ∧ Rd l q := by
    intro d
    induction d with
    | zero =>
      intro i f p hd hi hf hp
      obtain rfl : i = 8 := by omega
      have hr := be_range f hf 8
      have e8 : (256 : Int) ^ 8 = 18446744073709551616 := by decide
      exact ⟨_, _, Ev.step (fun k => by rw [spec_l1Rd_word.p8]) (Ev.neg (by omega) (Ev.eq rfl)), hr.1, by omega, hp⟩
    | succ d ih =>
      intro i f p hd hi hf hp
      obtain ⟨b, q, e, h0, h1, hq⟩ := next_f hp
      obtain ⟨v, q2, he, hv⟩ := ih (i + 1) (fun j => if j = i then b else f j) q (by omega) (by omega) (fun j => by
        by_cases c : j = i
        · simp only [if_pos c]; exact ⟨h0, h1⟩
        · simp only [if_neg c]; exact hf j) hq
      refine ⟨v, q2, Ev.step (fun k => by rw [spec_l1Rd_word.p8]) (Ev.pos (by omega) (Ev.bindo e ?_)), hv⟩
      have hb := be_step_u64 (fun j => if j = i then b else f j) (fun j => by
        by_cases c : j = i
        · simp only [if_pos c]; exact ⟨h0, h1⟩
        · simp only [if_neg c]; exact hf j) i (by omega)
      rw [be_congr (f := fun j => if j = i then b else f j) (g := f) i (fun j hj => if_neg (by omega))] at hb
      simp only [if_true] at hb
      simp only []
      rw [shl8_u64, orA_eq, hb, show wrap64 ((i : Int) + 1) = ((i + 1 : Nat) : Int) from by rw [w64 (by omega) (by omega)]; omega]
      exact he
  unfold spec_l1Rd_word.f
  exact lp 8 0 (fun _ => 0) p rfl (by omega) (fun _ => by omega) h
theorem u64_id {x : Int} (h0 : 0 ≤ x) (h1 : x < 18446744073709551616) : IntKind.u64.wrap x = x := by
  simp [IntKind.wrap, IntKind.bits, IntKind.signed]
  omega
/-- near lo hi: one of lo .. hi, or an end of it. -/
theorem near_ev {l : List Int} {p : Int} (h : Rd l p) (lo hi : Int) (h0 : -2305843009213693952 ≤ lo) (h1 : lo ≤ 2305843009213693952) (h2 : -2305843009213693952 ≤ hi) (h3 : hi ≤ 2305843009213693952) :
    ∃ v q, Ev (fun k => spec_l1Rd_near.f k l p lo hi) (l, q, v) ∧ (lo ≤ hi → lo ≤ v ∧ v ≤ hi) ∧ (v = hi ∨ lo ≤ v) ∧ -2305843009213693952 ≤ v ∧ v ≤ 2305843009213693952 ∧ Rd l q := by
  obtain ⟨v, q, e, hv0, hv1, hq⟩ := below_f h 8 (by omega) (by omega)
  unfold spec_l1Rd_near.f
  by_cases c0 : v = 0
  · exact ⟨_, _, Ev.bindo e (Ev.pos c0 (Ev.eq rfl)), fun _ => by omega, by omega, by omega, by omega, hq⟩
  · by_cases c1 : v = 1
    · exact ⟨_, _, Ev.bindo e (Ev.neg c0 (Ev.pos c1 (Ev.eq rfl))), fun _ => by omega, by omega, by omega, by omega, hq⟩
    · by_cases c2 : hi < lo
      · exact ⟨_, _, Ev.bindo e (Ev.neg c0 (Ev.neg c1 (Ev.pos c2 (Ev.eq rfl)))), fun _ => by omega, by omega, by omega, by omega, hq⟩
      · obtain ⟨w, q2, ew, hw0, hw1, hq2⟩ := word_ev hq
        have hm := tmod_range (show 0 ≤ w / 2 by omega) (show 0 < hi - lo + 1 by omega)
        refine ⟨lo + Int.tmod (w / 2) (hi - lo + 1), q2, Ev.bindo e (Ev.neg c0 (Ev.neg c1 (Ev.neg c2 (Ev.bind ew ?_)))), fun _ => by omega, by omega, by omega, by omega, hq2⟩
        rw [w64 (x := hi - lo) (by omega) (by omega), w64 (x := hi - lo + 1) (by omega) (by omega), u64_id (x := hi - lo + 1) (by omega) (by omega)]
        refine Ev.neg (by omega) ?_
        simp only []
        rw [shr1_u64, w64 (x := Int.tmod (w / 2) (hi - lo + 1)) (by omega) (by omega), w64 (x := lo + Int.tmod (w / 2) (hi - lo + 1)) (by omega) (by omega)]
        exact Ev.eq rfl
/-- off lo hi: as near, now and then just outside, or an end of int64. -/
theorem off_ev {l : List Int} {p : Int} (h : Rd l p) (lo hi : Int) (h0 : -1099511627776 ≤ lo) (h1 : lo ≤ 1099511627776) (h2 : -1099511627776 ≤ hi) (h3 : hi ≤ 1099511627776) :
    ∃ v q, Ev (fun k => spec_l1Rd_off.f k l p lo hi) (l, q, v) ∧ -9223372036854775808 ≤ v ∧ v ≤ 9223372036854775807 ∧ Rd l q := by
  obtain ⟨o, q, e, hq⟩ := once_f h 24 (by omega) (by omega)
  unfold spec_l1Rd_off.f
  by_cases c : o = true
  · obtain ⟨v, q2, e2, hv0, hv1, hq2⟩ := below_f hq 4 (by omega) (by omega)
    refine ⟨rd [wrap64 (lo - 1), wrap64 (hi + 1), (-9223372036854775808), 9223372036854775807] v, q2, Ev.bindo e (Ev.pos c (Ev.bindo e2 (Ev.pos (by simp only []; omega) (Ev.pos (by simp only [List.length_cons, List.length_nil]; omega) (Ev.eq rfl))))), ?_, ?_, hq2⟩
    all_goals
      obtain rfl | rfl | rfl | rfl : v = 0 ∨ v = 1 ∨ v = 2 ∨ v = 3 := by omega
      · have := wrap64_range (lo - 1); simp [rd]; omega
      · have := wrap64_range (hi + 1); simp [rd]; omega
      · simp [rd]
      · simp [rd]
  · obtain ⟨v, q2, e2, _, _, hv0, hv1, hq2⟩ := near_ev hq lo hi (by omega) (by omega) (by omega) (by omega)
    exact ⟨v, q2, Ev.bindo e (Ev.neg c (Ev.bind e2 (Ev.eq rfl))), by omega, by omega, hq2⟩
end Go.Proofs.YtgfeafcgpeclcaaDoor.Abs
namespace Go.Proofs.YtgfeafcgpeclcaaDoor.Abs
open Go Go.RowKit
set_option linter.unusedVariables false
set_option linter.unusedSectionVars false
set_option linter.unusedSimpArgs false
theorem kinds_ev {l : List Int} {p : Int} (h : Rd l p) (most : Int) (h1 : 1 ≤ most) (h2 : most ≤ 100) : ∃ s q, Ev (fun k => spec_l1Rd_kinds.f k l p most) (l, q, s) ∧ (1 ≤ s.size ∧ s.size ≤ 100) ∧ Rd l q := by
  have lp : ∀ (d : Nat) (s : ByteArray) (p : Int), 1 ≤ s.size + d ∧ s.size + d ≤ 100 → Rd l p → ∃ s' q, Ev (fun k => spec_l1Rd_kinds.p8 k l p s (d : Int)) (l, q, s') ∧ (1 ≤ s'.size ∧ s'.size ≤ 100) ∧ Rd l q := by
    intro d
    induction d with
    | zero =>
      intro s p hs hp
      exact ⟨_, _, Ev.step (fun k => by rw [spec_l1Rd_kinds.p8]) (Ev.neg (by omega) (Ev.eq rfl)), by omega, hp⟩
    | succ d ih =>
      intro s p hs hp
      obtain ⟨v, q, e, hv0, hv1, hq⟩ := below_f hp 2 (by omega) (by omega)
      have hz : (rdOf ByteArray.empty [(⟨#[105]⟩ : ByteArray), (⟨#[114]⟩ : ByteArray)] v).size = 1 := by
        obtain rfl | rfl : v = 0 ∨ v = 1 := by omega
        · rfl
        · rfl
      obtain ⟨s', q2, e2, hs', hq2⟩ := ih (s ++ rdOf ByteArray.empty [(⟨#[105]⟩ : ByteArray), (⟨#[114]⟩ : ByteArray)] v) q (by rw [ByteArray.size_append, hz]; omega) hq
      refine ⟨s', q2, ?_, hs', hq2⟩
      refine Ev.step (fun k => by rw [spec_l1Rd_kinds.p8]) ?_
      refine Ev.pos (by omega) (Ev.bindo e ?_)
      rw [show wrap64 (((d + 1 : Nat) : Int) - 1) = (d : Int) from by rw [w64 (by omega) (by omega)]; omega]
      refine Ev.pos hv0 (Ev.pos (by simp only []; omega) ?_)
      exact Ev.pos (by simp only [hz]; omega) e2
  obtain ⟨v, q, e, hv0, hv1, hq⟩ := below_f h most (by omega) (by omega)
  obtain ⟨s, q2, e2, hs, hq2⟩ := lp (1 + v).toNat ⟨#[]⟩ q (by show 1 ≤ 0 + _ ∧ 0 + _ ≤ _; omega) hq
  refine ⟨s, q2, ?_, hs, hq2⟩
  unfold spec_l1Rd_kinds.f
  refine Ev.bindo e ?_
  simp only []
  rw [show wrap64 (1 + v) = ((1 + v).toNat : Int) from by rw [w64 (by omega) (by omega)]; omega]
  exact e2
theorem sizes_snoc {ts : List ByteArray} {s : ByteArray} {n : Nat} (h : ∀ x ∈ ts, 1 ≤ x.size ∧ x.size ≤ n) (hz : 1 ≤ s.size ∧ s.size ≤ n) : ∀ x ∈ ts ++ [s], 1 ≤ x.size ∧ x.size ≤ n := by
  intro x hx
  rcases List.mem_append.1 hx with hx | hx
  · exact h x hx
  · simp only [List.mem_singleton] at hx
    subst hx
    exact hz
theorem drawTypes1_ev {l : List Int} {p : Int} (h : Rd l p) : ∃ ts q, Ev (fun k => spec_l1Rd_types.f k l p) (l, q, ts) ∧ 1 ≤ ts.length ∧ ts.length ≤ 100 ∧ (∀ x ∈ ts, 1 ≤ x.size ∧ x.size ≤ 100) ∧ Rd l q := by
  have lp : ∀ (d : Nat) (ts : List ByteArray) (p : Int), 1 ≤ ts.length → ts.length + d ≤ 100 → (∀ x ∈ ts, 1 ≤ x.size ∧ x.size ≤ 100) → Rd l p → ∃ ts' q, Ev (fun k => spec_l1Rd_types.p8 k l p ts (d : Int)) (l, q, ts') ∧ 1 ≤ ts'.length ∧ ts'.length ≤ 100 ∧ (∀ x ∈ ts', 1 ≤ x.size ∧ x.size ≤ 100) ∧ Rd l q := by
    intro d
    induction d with
    | zero =>
      intro ts p h1 h2 hs hp
      exact ⟨_, _, Ev.step (fun k => by rw [spec_l1Rd_types.p8]) (Ev.neg (by omega) (Ev.eq rfl)), h1, by omega, hs, hp⟩
    | succ d ih =>
      intro ts p h1 h2 hs hp
      obtain ⟨b, q, e, hq⟩ := once_f hp 4 (by omega) (by omega)
      have e1 : wrap64 (((d + 1 : Nat) : Int) - 1) = (d : Int) := by rw [w64 (by omega) (by omega)]; omega
      cases b with
      | true =>
        obtain ⟨s, q2, e2, hz, hq2⟩ := kinds_ev hq 23 (by omega) (by omega)
        obtain ⟨ts', q3, e3, hr⟩ := ih (ts ++ [s]) q2 (by simp) (by simp; omega) (sizes_snoc hs hz) hq2
        refine ⟨ts', q3, ?_, hr⟩
        refine Ev.step (fun k => by rw [spec_l1Rd_types.p8]) ?_
        refine Ev.pos (by omega) (Ev.bindo e ?_)
        refine Ev.pos rfl (Ev.bind e2 ?_)
        refine Ev.pos (by omega) ?_
        rw [e1]
        exact e3
      | false =>
        obtain ⟨s, q2, e2, hz, hq2⟩ := kinds_ev hq 5 (by omega) (by omega)
        obtain ⟨ts', q3, e3, hr⟩ := ih (ts ++ [s]) q2 (by simp) (by simp; omega) (sizes_snoc hs hz) hq2
        refine ⟨ts', q3, ?_, hr⟩
        refine Ev.step (fun k => by rw [spec_l1Rd_types.p8]) ?_
        refine Ev.pos (by omega) (Ev.bindo e ?_)
        refine Ev.neg (by simp) (Ev.bind e2 ?_)
        refine Ev.pos (by omega) ?_
        rw [e1]
        exact e3
  obtain ⟨v, q, e, hv0, hv1, hq⟩ := below_f h 4 (by omega) (by omega)
  obtain ⟨n, q2, e2, hn0, hn1, hq2⟩ := below_f hq 3 (by omega) (by omega)
  have hz : 1 ≤ (rdOf ByteArray.empty [(⟨#[105, 114]⟩ : ByteArray), (⟨#[114, 114, 105]⟩ : ByteArray), (⟨#[114, 105]⟩ : ByteArray), (⟨#[105, 114, 114]⟩ : ByteArray)] v).size ∧ (rdOf ByteArray.empty [(⟨#[105, 114]⟩ : ByteArray), (⟨#[114, 114, 105]⟩ : ByteArray), (⟨#[114, 105]⟩ : ByteArray), (⟨#[105, 114, 114]⟩ : ByteArray)] v).size ≤ 100 := by
    obtain rfl | rfl | rfl | rfl : v = 0 ∨ v = 1 ∨ v = 2 ∨ v = 3 := by omega
    · show 1 ≤ 2 ∧ 2 ≤ 100; omega
    · show 1 ≤ 3 ∧ 3 ≤ 100; omega
    · show 1 ≤ 2 ∧ 2 ≤ 100; omega
    · show 1 ≤ 3 ∧ 3 ≤ 100; omega
  obtain ⟨ts, q3, e3, hr⟩ := lp n.toNat [rdOf ByteArray.empty [(⟨#[105, 114]⟩ : ByteArray), (⟨#[114, 114, 105]⟩ : ByteArray), (⟨#[114, 105]⟩ : ByteArray), (⟨#[105, 114, 114]⟩ : ByteArray)] v] q2 (by simp) (by simp only [List.length_cons, List.length_nil]; omega) (fun x hx => by simp only [List.mem_singleton] at hx; subst hx; exact hz) hq2
  refine ⟨ts, q3, ?_, hr⟩
  unfold spec_l1Rd_types.f
  refine Ev.bindo e (Ev.pos hv0 (Ev.pos (by simp only []; omega) (Ev.bindo e2 ?_)))
  simp only []
  rw [show n = ((n.toNat : Nat) : Int) from by omega]
  exact e3
theorem drawTypes_ev {l : List Int} {p : Int} (h : Rd l p) : ∃ ts q, Ev (fun k => spec_l1Rd_types.f k l p) (l, q, ts) ∧ 1 ≤ ts.length ∧ ts.length ≤ 100 ∧ (∀ x ∈ ts, x.size ≤ 100) ∧ Rd l q := by
  obtain ⟨ts, q, e, h1, h2, h3, h4⟩ := drawTypes1_ev h
  exact ⟨ts, q, e, h1, h2, fun x hx => (h3 x hx).2, h4⟩
end Go.Proofs.YtgfeafcgpeclcaaDoor.Abs
namespace Go.Proofs.YtgfeafcgpeclcaaDoor.Abs.Pu
open Go Go.RowKit
set_option linter.unusedVariables false
set_option linter.unusedSectionVars false
set_option linter.unusedSimpArgs false
def Ints (l : List Int) : Prop := ∀ x ∈ l, -9223372036854775808 ≤ x ∧ x ≤ 9223372036854775807
theorem Ints.snoc {l : List Int} (h : Ints l) {x : Int} (hx : -9223372036854775808 ≤ x ∧ x ≤ 9223372036854775807) : Ints (l ++ [x]) := by
  intro y hy
  rcases List.mem_append.1 hy with hy | hy
  · exact h y hy
  · simp only [List.mem_singleton] at hy
    subst hy
    exact hx
theorem Ints.set {l : List Int} (h : Ints l) (i : Nat) {x : Int} (hx : -9223372036854775808 ≤ x ∧ x ≤ 9223372036854775807) : Ints (l.set i x) := by
  intro y hy
  rcases List.mem_or_eq_of_mem_set hy with hy | rfl
  · exact h y hy
  · exact hx
theorem Ints.at_ {l : List Int} (h : Ints l) (i : Int) : -9223372036854775808 ≤ rd l i ∧ rd l i ≤ 9223372036854775807 := by
  unfold rd
  rw [List.getD_eq_getElem?_getD]
  cases hg : l[i.toNat]? with
  | none => exact ⟨by decide, by decide⟩
  | some x => exact h x (List.mem_of_getElem? hg)
theorem wrap_ok (x : Int) : -9223372036854775808 ≤ wrap64 x ∧ wrap64 x ≤ 9223372036854775807 := wrap64_range x
theorem ref_ev {l : List Int} {p : Int} (h : Rd l p) : ∃ v q, Ev (fun k => spec_l1Rd_ref.f k l p) (l, q, v) ∧ (-9223372036854775808 ≤ v ∧ v ≤ 9223372036854775807) ∧ Rd l q := by
  obtain ⟨a, q, ea, ha0, ha1, hq⟩ := below_f h 12 (by omega) (by omega)
  obtain ⟨v, q2, e2, hv0, hv1, hq2⟩ := below_f hq 20 (by omega) (by omega)
  unfold spec_l1Rd_ref.f
  by_cases c0 : a = 0
  · obtain ⟨v, q2, e2, hv0, hv1, hq2⟩ := off_ev hq 0 254 (by omega) (by omega) (by omega) (by omega)
    exact ⟨_, _, Ev.bindo ea (Ev.pos c0 (Ev.bind e2 (Ev.eq rfl))), ⟨hv0, hv1⟩, hq2⟩
  by_cases c1 : a = 1
  · obtain ⟨v, q2, e2, hv0, hv1, hq2⟩ := off_ev hq 0 799 (by omega) (by omega) (by omega) (by omega)
    exact ⟨_, _, Ev.bindo ea (Ev.neg c0 (Ev.pos c1 (Ev.bind e2 (Ev.eq rfl)))), ⟨hv0, hv1⟩, hq2⟩
  by_cases c2 : a = 2
  · exact ⟨0, q, Ev.bindo ea (Ev.neg c0 (Ev.neg c1 (Ev.pos c2 (Ev.eq rfl)))), ⟨by decide, by decide⟩, hq⟩
  by_cases c3 : a = 3
  · exact ⟨0, q, Ev.bindo ea (Ev.neg c0 (Ev.neg c1 (Ev.neg c2 (Ev.pos c3 (Ev.eq rfl))))), ⟨by decide, by decide⟩, hq⟩
  by_cases c4 : a = 4
  · exact ⟨_, _, Ev.bindo ea (Ev.neg c0 (Ev.neg c1 (Ev.neg c2 (Ev.neg c3 (Ev.pos c4 (Ev.bindo e2 (Ev.eq rfl))))))), wrap_ok _, hq2⟩
  by_cases c5 : a = 5
  · exact ⟨_, _, Ev.bindo ea (Ev.neg c0 (Ev.neg c1 (Ev.neg c2 (Ev.neg c3 (Ev.neg c4 (Ev.pos c5 (Ev.bindo e2 (Ev.eq rfl)))))))), wrap_ok _, hq2⟩
  by_cases c6 : a = 6
  · exact ⟨_, _, Ev.bindo ea (Ev.neg c0 (Ev.neg c1 (Ev.neg c2 (Ev.neg c3 (Ev.neg c4 (Ev.neg c5 (Ev.pos c6 (Ev.bindo e2 (Ev.eq rfl))))))))), wrap_ok _, hq2⟩
  · exact ⟨_, _, Ev.bindo ea (Ev.neg c0 (Ev.neg c1 (Ev.neg c2 (Ev.neg c3 (Ev.neg c4 (Ev.neg c5 (Ev.neg c6 (Ev.bindo e2 (Ev.eq rfl))))))))), wrap_ok _, hq2⟩
end Go.Proofs.YtgfeafcgpeclcaaDoor.Abs.Pu
namespace Go.Proofs.YtgfeafcgpeclcaaDoor.Abs.Pu
open Go Go.RowKit
set_option linter.unusedVariables false
set_option linter.unusedSectionVars false
set_option linter.unusedSimpArgs false
/-- An object of valid types, its references such that p holds. -/
def objW (p : Int → Bool) (types : List ByteArray) (o : Int × List Int) : Bool :=
  (decide (0 ≤ o.1) && decide (o.1 ≤ (types.length : Int) - 1)) && (decide (o.2.length = (rdOf ByteArray.empty types o.1).size) && refsB p (rdOf ByteArray.empty types o.1) 0 o.2)
theorem type_size {types : List ByteArray} (ht : typesOk types = true) (t : Int) : (rdOf ByteArray.empty types t).size ≤ 23 := by
  unfold typesOk at ht
  rw [Bool.and_eq_true, List.all_eq_true] at ht
  unfold rdOf
  by_cases h : t.toNat < types.length
  · have := ht.2 _ (List.getElem_mem h)
    rw [List.getD_eq_getElem?_getD, List.getElem?_eq_getElem h]
    unfold typeOk at this
    simp only [Bool.and_eq_true, decide_eq_true_eq] at this
    exact this.1.2
  · rw [List.getD_eq_getElem?_getD, List.getElem?_eq_none (by omega)]
    exact Nat.zero_le _
theorem types_len {types : List ByteArray} (ht : typesOk types = true) : 1 ≤ types.length ∧ types.length ≤ 12 := by
  unfold typesOk at ht
  rw [Bool.and_eq_true] at ht
  simpa using ht.1
end Go.Proofs.YtgfeafcgpeclcaaDoor.Abs.Pu
namespace Go.Proofs.YtgfeafcgpeclcaaDoor.Abs.Pu
open Go Go.RowKit
set_option linter.unusedVariables false
set_option linter.unusedSectionVars false
set_option linter.unusedSimpArgs false
theorem heads_some {types : List ByteArray} {sz : Int} {words : List Int} (h : (headsR types sz words).isSome = true) : typesOk types = true ∧ (2 ≤ sz ∧ sz ≤ 400) ∧ (words.length : Int) ≤ sz := by
  obtain ⟨st, h⟩ := Option.isSome_iff_exists.1 h
  have h := (headsR_some h).1
  unfold parsed at h
  split at h
  · assumption
  · cases h
theorem impl_NurseryOk_ev (types : List ByteArray) (sz : Int) (words : List Int) (hs : ∀ x ∈ types, x.size ≤ 1048576) (hw : ∀ x ∈ words, -9223372036854775808 ≤ x ∧ x ≤ 9223372036854775807) : Ev (fun k => impl_NurseryOk.f k types sz words) (headsR types sz words).isSome := by
  unfold impl_NurseryOk.f
  refine Ev.bind (impl_heads_ev types sz words hs hw) (Ev.eq ?_)
  cases headsR types sz words <;> rfl
theorem ownNursery_f (sz : Int) (words : List Int) (h : words.length ≤ 400) : impl_ownNursery.f sz words = some (sz, words) := by
  unfold impl_ownNursery.f slices_Clone_int64.f
  rw [if_pos (by omega)]
  rfl
theorem l8Copy_f (sz : Int) (words : List Int) (h : words.length ≤ 400) : spec_l8Copy.f sz words = some (sz, words) := by
  unfold spec_l8Copy.f
  rw [if_pos (by omega), List.nil_append]
end Go.Proofs.YtgfeafcgpeclcaaDoor.Abs.Pu
namespace Go.Proofs.YtgfeafcgpeclcaaDoor.Abs.Pu
open Go Go.RowKit
set_option linter.unusedVariables false
set_option linter.unusedSectionVars false
set_option linter.unusedSimpArgs false
def setR (types : List ByteArray) (sz : Int) (words : List Int) (ref i v : Int) : Int × List Int × Bool :=
  match headsR types sz words with
  | some st => if isHeadB st ref = true then
      (if (decide (0 ≤ i) && decide (i ≤ ((rdOf ByteArray.empty types (rd words (ref / 2) / 4)).size : Int) - 1)) = true then
        (if bt (rdOf ByteArray.empty types (rd words (ref / 2) / 4)) i = 114 then (if refOk st v = true then (sz, words.set (ref / 2 + 1 + i).toNat v, true) else (0, [], false)) else (sz, words.set (ref / 2 + 1 + i).toNat v, true))
      else (0, [], false)) else (0, [], false)
  | none => (0, [], false)
theorem setR_length (types : List ByteArray) (sz : Int) (words : List Int) (ref i v : Int) (h : words.length ≤ 1048576) : (setR types sz words ref i v).2.1.length ≤ 1048576 := by
  unfold setR
  split
  · split
    · split
      · split
        · split
          · simpa using h
          · simp
        · simpa using h
      · simp
    · simp
  · simp
theorem spec_set_bad (ref i v sz : Int) (words : List Int) : Ev (fun k => spec_YoungSet.p7 k ref i v sz words 0 true) (0, [], false) := by
  refine Ev.step (fun k => by rw [spec_YoungSet.p7]) ?_
  exact Ev.pos rfl (Ev.eq rfl)
theorem spec_set_good (ref i v sz : Int) (words : List Int) (hwl : words.length ≤ 400) (hr : 0 ≤ ref) (hr2 : ref ≤ 1000) (hi : 0 ≤ i) (hi2 : ref / 2 + 1 + i < words.length) : Ev (fun k => spec_YoungSet.p7 k ref i v sz words 0 false) (sz, words.set (ref / 2 + 1 + i).toNat v, true) := by
  refine Ev.step (fun k => by rw [spec_YoungSet.p7]) ?_
  refine Ev.neg (by simp) (Ev.bindo (l8Copy_f sz words hwl) ?_)
  rw [Int.tdiv_eq_ediv_of_nonneg (a := ref) (by omega), w64 (x := ref / 2) (by omega) (by omega), w64 (x := ref / 2 + 1) (by omega) (by omega), w64 (x := ref / 2 + 1 + i) (by omega) (by omega)]
  exact Ev.pos (by omega) (Ev.pos (by simp only []; omega) (Ev.eq rfl))
theorem spec_YoungSet_ev (types : List ByteArray) (sz : Int) (words : List Int) (ref i v : Int) (hl : types.length ≤ 1048576) (hs : ∀ x ∈ types, x.size ≤ 1048576) (hw : ∀ x ∈ words, -9223372036854775808 ≤ x ∧ x ≤ 9223372036854775807) : Ev (fun k => spec_YoungSet.f k types sz words ref i v) (setR types sz words ref i v) := by
  unfold spec_YoungSet.f
  refine Ev.bind (spec_YoungObject_ev types sz words ref hl hs hw) ?_
  have hst := spec_Starts_ev types sz words hl hs hw
  unfold youngR setR
  cases h : headsR types sz words with
  | none => exact Ev.neg (by simp) (spec_set_bad ..)
  | some st =>
    obtain ⟨ht, hwl, hfit, hsrt, hlen⟩ := parsed_facts (headsR_some h).1
    rw [h] at hst
    simp only [Option.getD_some] at hst
    simp only []
    by_cases c : isHeadB st ref = true
    rotate_left
    · simp only [if_neg c]
      exact Ev.neg (by simp) (spec_set_bad ..)
    · simp only [if_pos c]
      obtain ⟨hr, hm, hf, he⟩ := head_fits hfit c
      have hp := refk_pos hr
      have hvl := vals_length hf
      refine Ev.pos trivial ?_
      generalize hn : (ref / 2).toNat = n at *
      obtain ⟨m, e, h1, h2, h3, h4⟩ := hf
      obtain rfl : m = n := by omega
      have hrr := rd_range hw h1
      have hk := parse_size ht (rd words m)
      rw [hvl]
      rw [he]
      have hkk : rdOf ByteArray.empty types (rd words (m : Int) / 4) = kindsAt types (rd words m) := rfl
      rw [hkk]
      generalize kindsAt types (rd words m) = kk at *
      rw [w64 (x := (kk.size : Int) - 1) (by omega) (by omega)]
      refine Ev.bindo (l1In_f i 0 ((kk.size : Int) - 1)) (Ev.cases (fun c2 => ?_) (fun c2 => ?_))
      · rw [if_pos c2]
        simp only [Bool.and_eq_true, decide_eq_true_eq] at c2
        refine Ev.pos (by omega) (Ev.pos h3 (Ev.pos c2.1 (Ev.pos (by omega) (Ev.cases (fun (c3 : bt kk i = 114) => ?_) (fun (c3 : ¬ bt kk i = 114) => ?_)))))
        · rw [if_pos c3]
          refine Ev.bind hst (Ev.bind (spec_l8Ref_ev st v (by omega)) ?_)
          by_cases c4 : refOk st v = true
          · rw [if_pos c4, c4, ← he]
            exact spec_set_good ref i v sz words hwl (by omega) (by omega) c2.1 (by omega)
          · rw [if_neg c4, Bool.eq_false_iff.2 c4]
            exact spec_set_bad ..
        · rw [if_neg c3, ← he]
          exact spec_set_good ref i v sz words hwl (by omega) (by omega) c2.1 (by omega)
      · rw [if_neg c2]
        exact spec_set_bad ..
end Go.Proofs.YtgfeafcgpeclcaaDoor.Abs.Pu
namespace Go.Proofs.YtgfeafcgpeclcaaDoor.Abs.Pu
open Go Go.RowKit
set_option linter.unusedVariables false
set_option linter.unusedSectionVars false
set_option linter.unusedSimpArgs false
def allocR (types : List ByteArray) (sz : Int) (words : List Int) (t : Int) : Int × List Int × Int × Int :=
  if (headsR types sz words).isSome = true then
    if (decide (0 ≤ t) && decide (t ≤ (types.length : Int) - 1)) = true then
      if (words.length : Int) + 1 + ((rdOf ByteArray.empty types t).size : Int) > sz then (0, [], 0, 3)
      else (sz, words ++ [4 * t] ++ List.replicate (rdOf ByteArray.empty types t).size 0, 2 * (words.length : Int) + 1, 0)
    else (0, [], 0, 2)
  else (0, [], 0, 1)
theorem spec_YoungAlloc_ev (types : List ByteArray) (sz : Int) (words : List Int) (t : Int) (hl : types.length ≤ 1048576) (hs : ∀ x ∈ types, x.size ≤ 1048576) (hw : ∀ x ∈ words, -9223372036854775808 ≤ x ∧ x ≤ 9223372036854775807) : Ev (fun k => spec_YoungAlloc.f k types sz words t) (allocR types sz words t) := by
  unfold spec_YoungAlloc.f allocR
  refine Ev.bind (spec_NurseryOk_ev types sz words hl hs hw) (Ev.cases (fun c => ?_) (fun c => ?_))
  · obtain ⟨ht, hz, hl⟩ := heads_some c
    have htl := types_length ht
    have hk := type_size ht t
    rw [if_pos c]
    rw [w64 (x := (types.length : Int) - 1) (by omega) (by omega)]
    refine Ev.bindo (l1In_f t 0 ((types.length : Int) - 1)) (Ev.cases (fun c2 => ?_) (fun c2 => ?_))
    · rw [if_pos c2]
      simp only [Bool.and_eq_true, decide_eq_true_eq] at c2
      refine Ev.pos (by omega) ?_
      refine Ev.pos (by omega) ?_
      rw [w64 (x := (words.length : Int) + 1) (by omega) (by omega), w64 (x := (words.length : Int) + 1 + ((rdOf ByteArray.empty types t).size : Int)) (by omega) (by omega)]
      generalize rdOf ByteArray.empty types t = kk at *
      refine Ev.cases (fun c3 => ?_) (fun c3 => ?_)
      · rw [if_pos c3]
        exact Ev.eq rfl
      · rw [if_neg c3]
        refine Ev.bindo (l8Copy_f sz words (by omega)) ?_
        refine Ev.pos (by simp only []; omega) (Ev.pos (by omega) (Ev.pos (by omega) (Ev.pos (by omega) ?_)))
        refine Ev.pos (by simp only [List.length_append, List.length_cons, List.length_nil, List.length_replicate]; omega) (Ev.eq ?_)
        rw [w64 (x := 4 * t) (by omega) (by omega), Int.toNat_natCast, w64 (x := 2 * (words.length : Int)) (by omega) (by omega), w64 (x := 2 * (words.length : Int) + 1) (by omega) (by omega)]
    · rw [if_neg c2]
      exact Ev.eq rfl
  · rw [if_neg c]
    exact Ev.eq rfl
theorem allocR_length (types : List ByteArray) (sz : Int) (words : List Int) (t : Int) : (allocR types sz words t).2.1.length ≤ 1000 := by
  unfold allocR
  split
  · rename_i h
    obtain ⟨ht, hz, hl⟩ := heads_some h
    have hk := type_size ht t
    split
    · split
      · simp
      · simp only [List.length_append, List.length_cons, List.length_nil, List.length_replicate]
        omega
    · simp
  · simp
end Go.Proofs.YtgfeafcgpeclcaaDoor.Abs.Pu
