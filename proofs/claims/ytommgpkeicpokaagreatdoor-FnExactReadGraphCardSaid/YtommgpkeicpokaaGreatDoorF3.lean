/- The Lean functions that the machine tells of the program. -/
import Derived.Lib.SplitLaws
import Derived.Lib.ParseIntB
import Derived.Lib.AtoiErrMem
import Derived.Lib.ItoaNum
import Derived.Lib.LaidTab
import Derived.Shelf.Strings.SlTrimAscii
import Derived.Shelf.RegionOpenPlain
import Derived.Test.YtommgpkeicpokaaGreatDoorAbsOpen
namespace Go.Proofs.YtommgpkeicpokaaGreatDoor.Abs
open Go Go.RowKit
set_option linter.unusedVariables false
set_option linter.unusedSectionVars false
set_option linter.unusedSimpArgs false
noncomputable section
def laws_szStringS.p16 : Nat → List ByteArray → Int → Int → Option (Int)
 | 0, _, _, _ => none
 | k + 1, x0, x1, x5 => (if x5 < (x0.length : Int) then (if 0 ≤ x5 then (if x5 < (x0.length : Int) then (if (wrap64 (x1 - ((rdOf ByteArray.empty x0 x5).size : Int))) < 0 then (some (-1)) else (laws_szStringS.p16 k x0 (wrap64 (x1 - ((rdOf ByteArray.empty x0 x5).size : Int))) (wrap64 (x5 + 1)))) else none) else none) else (some x1))
def laws_szStringS.f (k : Nat) (a0 : List ByteArray) (a1 : Int) : Option (Int) := (if (wrap64 (a1 - (a0.length : Int))) < 0 then (some (-1)) else (laws_szStringS.p16 k a0 (wrap64 (a1 - (a0.length : Int))) 0))
def laws_toStringS.p8 : Nat → List ByteArray → List ByteArray → Int → Option (List ByteArray)
 | 0, _, _, _ => none
 | k + 1, x0, x3, x4 => (if x4 < (x0.length : Int) then (if 0 ≤ x4 then (if x4 < (x0.length : Int) then (if 0 ≤ x4 then (if x4 < (x3.length : Int) then (laws_toStringS.p8 k x0 (x3.set x4.toNat (rdOf ByteArray.empty x0 x4)) (wrap64 (x4 + 1))) else none) else none) else none) else none) else (some x3))
def laws_toStringS.f (k : Nat) (a0 : List ByteArray) : Option (List ByteArray) := (if 0 ≤ (a0.length : Int) then (if (a0.length : Int).toNat ≤ 17592186044416 then (laws_toStringS.p8 k a0 (List.replicate (a0.length : Int).toNat (⟨#[]⟩ : ByteArray)) 0) else none) else none)
def spec_l1Cut.p6 : Nat → ByteArray → Int → Int → Option (ByteArray × ByteArray × Bool)
 | 0, _, _, _ => none
 | k + 1, x0, x1, x7 => (if x7 < (x0.size : Int) then (if 0 ≤ x7 then (if x7 < (x0.size : Int) then (if (byteAt x0 x7) = x1 then (if 0 ≤ x7 then (if x7 ≤ (x0.size : Int) then (if 0 ≤ (wrap64 (x7 + 1)) then (if (wrap64 (x7 + 1)) ≤ (x0.size : Int) then (some ((x0.extract 0 x7.toNat), (x0.extract (wrap64 (x7 + 1)).toNat (x0.size : Int).toNat), true)) else none) else none) else none) else none) else (spec_l1Cut.p6 k x0 x1 (wrap64 (x7 + 1)))) else none) else none) else (some (x0, (⟨#[]⟩ : ByteArray), false)))
def spec_l1Cut.f (k : Nat) (a0 : ByteArray) (a1 : Int) : Option (ByteArray × ByteArray × Bool) := (spec_l1Cut.p6 k a0 a1 0)
def spec_l1Lines.p6 : Nat → ByteArray → List ByteArray → Option (List ByteArray × Bool)
 | 0, _, _ => none
 | k + 1, x0, x4 => (if x0.toList = (⟨#[]⟩ : ByteArray).toList then (some (x4, true)) else ((spec_l1Cut.f k x0 10).bind fun t1 => (if x4.length + 1 ≤ 8796093022208 then (if t1.2.2 = true then (spec_l1Lines.p6 k t1.2.1 (x4 ++ ([t1.1] : List ByteArray))) else (some ((x4 ++ ([t1.1] : List ByteArray)), false))) else none)))
def spec_l1Lines.f (k : Nat) (a0 : ByteArray) : Option (List ByteArray × Bool) := (spec_l1Lines.p6 k a0 ([] : List ByteArray))
def spec_l1Split.p8 : Nat → ByteArray → List ByteArray → Bool → Option (List ByteArray)
 | 0, _, _, _ => none
 | k + 1, x0, x3, x4 => (if x4 = true then ((spec_l1Cut.f k x0 32).bind fun t1 => (if x3.length + 1 ≤ 8796093022208 then (spec_l1Split.p8 k t1.2.1 (x3 ++ ([t1.1] : List ByteArray)) t1.2.2) else none)) else (some x3))
def spec_l1Split.f (k : Nat) (a0 : ByteArray) : Option (List ByteArray) := (spec_l1Split.p8 k a0 ([] : List ByteArray) true)
mutual
def spec_l1Num_base.p5 : Nat → ByteArray → Bool → Option (Int × Bool)
 | 0, _, _ => none
 | k + 1, x0, x25 => (if x25 = true then (if 1 ≤ (x0.size : Int) then none else none) else (if (x0.size : Int) < 1 then (some (0, false)) else (if (x0.size : Int) > 16 then (some (0, false)) else (if 0 < (x0.size : Int) then (if (byteAt x0 0) = 48 then (if (x0.size : Int) > 1 then (some (0, false)) else (spec_l1Num_base.p26 k x0 0 0)) else (spec_l1Num_base.p26 k x0 0 0)) else none))))
def spec_l1Num_base.p26 : Nat → ByteArray → Int → Int → Option (Int × Bool)
 | 0, _, _, _ => none
 | k + 1, x0, x6, x7 => (if x7 < (x0.size : Int) then (if 0 ≤ x7 then (if x7 < (x0.size : Int) then (if (byteAt x0 x7) < 48 then (some (0, false)) else (if 0 ≤ x7 then (if x7 < (x0.size : Int) then (if (byteAt x0 x7) > 57 then (some (0, false)) else (if 0 ≤ x7 then (if x7 < (x0.size : Int) then (spec_l1Num_base.p26 k x0 (wrap64 ((wrap64 (10 * x6)) + (wrap64 (((byteAt x0 x7) - 48) % 256)))) (wrap64 (x7 + 1))) else none) else none)) else none) else none)) else none) else none) else (some (x6, true)))
end
def spec_l1Num_base.f (k : Nat) (a0 : ByteArray) : Option (Int × Bool) := (if (a0.size : Int) > 1 then (if 0 < (a0.size : Int) then (if (byteAt a0 0) = 45 then (if 1 < (a0.size : Int) then (if (byteAt a0 1) = 48 then (spec_l1Num_base.p5 k a0 false) else (if 1 < (a0.size : Int) then (spec_l1Num_base.p5 k a0 (!decide ((byteAt a0 1) = 45))) else none)) else none) else (spec_l1Num_base.p5 k a0 false)) else none) else (spec_l1Num_base.p5 k a0 false))
mutual
def spec_l1Num.p5 : Nat → ByteArray → Bool → Option (Int × Bool)
 | 0, _, _ => none
 | k + 1, x0, x25 => (if x25 = true then (if 1 ≤ (x0.size : Int) then ((spec_l1Num_base.f k (x0.extract 1 (x0.size : Int).toNat)).bind fun t1 => (some ((wrap64 (0 - t1.1)), t1.2))) else none) else (if (x0.size : Int) < 1 then (some (0, false)) else (if (x0.size : Int) > 16 then (some (0, false)) else (if 0 < (x0.size : Int) then (if (byteAt x0 0) = 48 then (if (x0.size : Int) > 1 then (some (0, false)) else (spec_l1Num.p26 k x0 0 0)) else (spec_l1Num.p26 k x0 0 0)) else none))))
def spec_l1Num.p26 : Nat → ByteArray → Int → Int → Option (Int × Bool)
 | 0, _, _, _ => none
 | k + 1, x0, x6, x7 => (if x7 < (x0.size : Int) then (if 0 ≤ x7 then (if x7 < (x0.size : Int) then (if (byteAt x0 x7) < 48 then (some (0, false)) else (if 0 ≤ x7 then (if x7 < (x0.size : Int) then (if (byteAt x0 x7) > 57 then (some (0, false)) else (if 0 ≤ x7 then (if x7 < (x0.size : Int) then (spec_l1Num.p26 k x0 (wrap64 ((wrap64 (10 * x6)) + (wrap64 (((byteAt x0 x7) - 48) % 256)))) (wrap64 (x7 + 1))) else none) else none)) else none) else none)) else none) else none) else (some (x6, true)))
end
def spec_l1Num.f (k : Nat) (a0 : ByteArray) : Option (Int × Bool) := (if (a0.size : Int) > 1 then (if 0 < (a0.size : Int) then (if (byteAt a0 0) = 45 then (if 1 < (a0.size : Int) then (if (byteAt a0 1) = 48 then (spec_l1Num.p5 k a0 false) else (if 1 < (a0.size : Int) then (spec_l1Num.p5 k a0 (!decide ((byteAt a0 1) = 45))) else none)) else none) else (spec_l1Num.p5 k a0 false)) else none) else (spec_l1Num.p5 k a0 false))
def spec_l7Nums.p8 : Nat → List ByteArray → List Int → Int → Option (List Int)
 | 0, _, _, _ => none
 | k + 1, x0, x3, x4 => (if x4 < (x0.length : Int) then (if 0 ≤ x4 then (if x4 < (x0.length : Int) then ((spec_l1Num.f k (rdOf ByteArray.empty x0 x4)).bind fun t1 => (if x3.length + 1 ≤ 17592186044416 then (spec_l7Nums.p8 k x0 (x3 ++ ([t1.1] : List Int)) (wrap64 (x4 + 1))) else none)) else none) else none) else (some x3))
def spec_l7Nums.f (k : Nat) (a0 : List ByteArray) : Option (List Int) := (spec_l7Nums.p8 k a0 ([] : List Int) 0)
def spec_l1In.f (a0 : Int) (a1 : Int) (a2 : Int) : Option (Bool) := (if a0 ≥ a1 then (some (decide (a0 ≤ a2))) else (some false))
def spec_l3Type.p6 : Nat → ByteArray → Int → Option (Bool)
 | 0, _, _ => none
 | k + 1, x0, x3 => (if x3 < (x0.size : Int) then (if 0 ≤ x3 then (if x3 < (x0.size : Int) then (if (byteAt x0 x3) = 105 then (spec_l3Type.p6 k x0 (wrap64 (x3 + 1))) else (if 0 ≤ x3 then (if x3 < (x0.size : Int) then (if (byteAt x0 x3) = 114 then (spec_l3Type.p6 k x0 (wrap64 (x3 + 1))) else (some false)) else none) else none)) else none) else none) else ((spec_l1In.f (x0.size : Int) 1 23).bind fun t1 => (some t1)))
def spec_l3Type.f (k : Nat) (a0 : ByteArray) : Option (Bool) := (spec_l3Type.p6 k a0 0)
def spec_TypesOk.p14 : Nat → List ByteArray → Int → Option (Bool)
 | 0, _, _ => none
 | k + 1, x0, x3 => (if x3 < (x0.length : Int) then (if 0 ≤ x3 then (if x3 < (x0.length : Int) then ((spec_l3Type.f k (rdOf ByteArray.empty x0 x3)).bind fun t2 => (if t2 = true then (spec_TypesOk.p14 k x0 (wrap64 (x3 + 1))) else (some false))) else none) else none) else (some true))
def spec_TypesOk.f (k : Nat) (a0 : List ByteArray) : Option (Bool) := ((spec_l1In.f (a0.length : Int) 1 12).bind fun t1 => (if t1 = true then (spec_TypesOk.p14 k a0 0) else (some false)))
mutual
def spec_GraphOk.p16 : Nat → List ByteArray → List Int → List (Int × List Int) → Int → Int → Option (Bool)
 | 0, _, _, _, _, _ => none
 | k + 1, x0, x3_0, x3_1, x5, x6 => (if x6 < (x3_0.length : Int) then (if 0 ≤ x6 then (if x6 < (x3_0.length : Int) then ((spec_l1In.f (rd x3_0 x6) 0 x5).bind fun t2 => (if t2 = true then (spec_GraphOk.p16 k x0 x3_0 x3_1 x5 (wrap64 (x6 + 1))) else (some false))) else none) else none) else (spec_GraphOk.p37 k x0 x3_0 x3_1 x5 0))
def spec_GraphOk.p37 : Nat → List ByteArray → List Int → List (Int × List Int) → Int → Int → Option (Bool)
 | 0, _, _, _, _, _ => none
 | k + 1, x0, x3_0, x3_1, x5, x7 => (if x7 < (x3_1.length : Int) then (if 0 ≤ x7 then (if x7 < (x3_1.length : Int) then ((spec_l1In.f (rdOf (0, []) x3_1 x7).1 0 (wrap64 ((x0.length : Int) - 1))).bind fun t3 => (if t3 = true then (if 0 ≤ (rdOf (0, []) x3_1 x7).1 then (if (rdOf (0, []) x3_1 x7).1 < (x0.length : Int) then (if ((rdOf (0, []) x3_1 x7).2.length : Int) = ((rdOf ByteArray.empty x0 (rdOf (0, []) x3_1 x7).1).size : Int) then (spec_GraphOk.p59 k x0 x3_0 x3_1 x5 x7 (rdOf (0, []) x3_1 x7).1 (rdOf (0, []) x3_1 x7).2 0) else (some false)) else none) else none) else (some false))) else none) else none) else (some true))
def spec_GraphOk.p59 : Nat → List ByteArray → List Int → List (Int × List Int) → Int → Int → Int → List Int → Int → Option (Bool)
 | 0, _, _, _, _, _, _, _, _ => none
 | k + 1, x0, x3_0, x3_1, x5, x7, x8_0, x8_1, x9 => (if x9 < (x8_1.length : Int) then (if 0 ≤ x8_0 then (if x8_0 < (x0.length : Int) then (if 0 ≤ x9 then (if x9 < ((rdOf ByteArray.empty x0 x8_0).size : Int) then (if (byteAt (rdOf ByteArray.empty x0 x8_0) x9) = 114 then (if 0 ≤ x9 then (if x9 < (x8_1.length : Int) then ((spec_l1In.f (rd x8_1 x9) 0 x5).bind fun t4 => (if t4 = true then (spec_GraphOk.p59 k x0 x3_0 x3_1 x5 x7 x8_0 x8_1 (wrap64 (x9 + 1))) else (some false))) else none) else none) else (spec_GraphOk.p59 k x0 x3_0 x3_1 x5 x7 x8_0 x8_1 (wrap64 (x9 + 1)))) else none) else none) else none) else none) else (spec_GraphOk.p37 k x0 x3_0 x3_1 x5 (wrap64 (x7 + 1))))
end
def spec_GraphOk.f (k : Nat) (a0 : List ByteArray) (a1_0 : List Int) (a1_1 : List (Int × List Int)) : Option (Bool) := ((spec_TypesOk.f k a0).bind fun t1 => (if t1 = true then (if (a1_0.length : Int) > 40 then (some false) else (if (a1_1.length : Int) > 400 then (some false) else (spec_GraphOk.p16 k a0 a1_0 a1_1 (a1_1.length : Int) 0))) else (some false)))
def spec_l1Dec_base.p14 : Nat → Int → ByteArray → Option (ByteArray)
 | 0, _, _ => none
 | k + 1, x0, x3 => (if x0 ≥ 10 then (if (strOf ([((wrap64 (48 + (Int.tmod x0 10))) % 256)] : List Int)).size + x3.size ≤ 9223372036854775807 then (spec_l1Dec_base.p14 k (wrap64 (Int.tdiv x0 10)) ((strOf ([((wrap64 (48 + (Int.tmod x0 10))) % 256)] : List Int)) ++ x3)) else none) else (if (strOf ([((wrap64 (48 + x0)) % 256)] : List Int)).size + x3.size ≤ 9223372036854775807 then (some ((strOf ([((wrap64 (48 + x0)) % 256)] : List Int)) ++ x3)) else none))
def spec_l1Dec_base.f (k : Nat) (a0 : Int) : Option (ByteArray) := (if a0 < 0 then none else (spec_l1Dec_base.p14 k a0 (⟨#[]⟩ : ByteArray)))
def spec_l1Dec.p14 : Nat → Int → ByteArray → Option (ByteArray)
 | 0, _, _ => none
 | k + 1, x0, x3 => (if x0 ≥ 10 then (if (strOf ([((wrap64 (48 + (Int.tmod x0 10))) % 256)] : List Int)).size + x3.size ≤ 9223372036854775807 then (spec_l1Dec.p14 k (wrap64 (Int.tdiv x0 10)) ((strOf ([((wrap64 (48 + (Int.tmod x0 10))) % 256)] : List Int)) ++ x3)) else none) else (if (strOf ([((wrap64 (48 + x0)) % 256)] : List Int)).size + x3.size ≤ 9223372036854775807 then (some ((strOf ([((wrap64 (48 + x0)) % 256)] : List Int)) ++ x3)) else none))
def spec_l1Dec.f (k : Nat) (a0 : Int) : Option (ByteArray) := (if a0 < 0 then ((spec_l1Dec_base.f k (wrap64 (0 - a0))).bind fun t1 => (if (⟨#[45]⟩ : ByteArray).size + t1.size ≤ 9223372036854775807 then (some ((⟨#[45]⟩ : ByteArray) ++ t1)) else none)) else (spec_l1Dec.p14 k a0 (⟨#[]⟩ : ByteArray)))
mutual
def spec_l7Text.p8 : Nat → List Int → List (Int × List Int) → ByteArray → Int → Option (ByteArray)
 | 0, _, _, _, _ => none
 | k + 1, x1_0, x1_1, x3, x4 => (if x4 < (x1_0.length : Int) then (if x3.size + (⟨#[32]⟩ : ByteArray).size ≤ 9223372036854775807 then (if 0 ≤ x4 then (if x4 < (x1_0.length : Int) then ((spec_l1Dec.f k (rd x1_0 x4)).bind fun t1 => (if (x3 ++ (⟨#[32]⟩ : ByteArray)).size + t1.size ≤ 9223372036854775807 then (spec_l7Text.p8 k x1_0 x1_1 ((x3 ++ (⟨#[32]⟩ : ByteArray)) ++ t1) (wrap64 (x4 + 1))) else none)) else none) else none) else none) else (if x3.size + (⟨#[10]⟩ : ByteArray).size ≤ 9223372036854775807 then (spec_l7Text.p25 k x1_0 x1_1 (numsOf (x3 ++ (⟨#[10]⟩ : ByteArray))) 0) else none))
def spec_l7Text.p25 : Nat → List Int → List (Int × List Int) → List Int → Int → Option (ByteArray)
 | 0, _, _, _, _ => none
 | k + 1, x1_0, x1_1, x5, x6 => (if x6 < (x1_1.length : Int) then (if 0 ≤ x6 then (if x6 < (x1_1.length : Int) then ((spec_l1Dec.f k (rdOf (0, []) x1_1 x6).1).bind fun t2 => (spec_l7Text.p40 k x1_0 x1_1 x5 x6 t2 0)) else none) else none) else (some (strOf x5)))
def spec_l7Text.p40 : Nat → List Int → List (Int × List Int) → List Int → Int → ByteArray → Int → Option (ByteArray)
 | 0, _, _, _, _, _, _ => none
 | k + 1, x1_0, x1_1, x5, x6, x7, x8 => (if 0 ≤ x6 then (if x6 < (x1_1.length : Int) then (if x8 < ((rdOf (0, []) x1_1 x6).2.length : Int) then (if x7.size + (⟨#[32]⟩ : ByteArray).size ≤ 9223372036854775807 then (if 0 ≤ x6 then (if x6 < (x1_1.length : Int) then (if 0 ≤ x8 then (if x8 < ((rdOf (0, []) x1_1 x6).2.length : Int) then ((spec_l1Dec.f k (rd (rdOf (0, []) x1_1 x6).2 x8)).bind fun t3 => (if (x7 ++ (⟨#[32]⟩ : ByteArray)).size + t3.size ≤ 9223372036854775807 then (spec_l7Text.p40 k x1_0 x1_1 x5 x6 ((x7 ++ (⟨#[32]⟩ : ByteArray)) ++ t3) (wrap64 (x8 + 1))) else none)) else none) else none) else none) else none) else none) else (if x5.length + (numsOf x7).length ≤ 140737488355328 then (if (x5 ++ (numsOf x7)).length + 1 ≤ 140737488355328 then (spec_l7Text.p25 k x1_0 x1_1 ((x5 ++ (numsOf x7)) ++ ([10] : List Int)) (wrap64 (x6 + 1))) else none) else none)) else none) else none)
end
def spec_l7Text.f (k : Nat) (a0_0 : List Int) (a0_1 : List (Int × List Int)) : Option (ByteArray) := (spec_l7Text.p8 k a0_0 a0_1 (⟨#[114, 111, 111, 116, 115]⟩ : ByteArray) 0)
mutual
def spec_GraphText.p14 : Nat → List Int → List (Int × List Int) → Int → Option (ByteArray)
 | 0, _, _, _ => none
 | k + 1, x3_0, x3_1, x5 => (if x5 < (x3_1.length : Int) then (spec_GraphText.p26 k x3_0 x3_1 x5 0) else ((spec_l7Text.f k x3_0 x3_1).bind fun t2 => (some t2)))
def spec_GraphText.p26 : Nat → List Int → List (Int × List Int) → Int → Int → Option (ByteArray)
 | 0, _, _, _, _ => none
 | k + 1, x3_0, x3_1, x5, x6 => (if 0 ≤ x5 then (if x5 < (x3_1.length : Int) then (if x6 < ((rdOf (0, []) x3_1 x5).2.length : Int) then (if 0 ≤ x5 then (if x5 < (x3_1.length : Int) then (if 0 ≤ x6 then (if x6 < ((rdOf (0, []) x3_1 x5).2.length : Int) then ((spec_l1In.f (rd (rdOf (0, []) x3_1 x5).2 x6) (-999999999999999) 999999999999999).bind fun t3 => (if t3 = true then (spec_GraphText.p26 k x3_0 x3_1 x5 (wrap64 (x6 + 1))) else (some (⟨#[]⟩ : ByteArray)))) else none) else none) else none) else none) else (spec_GraphText.p14 k x3_0 x3_1 (wrap64 (x5 + 1)))) else none) else none)
end
def spec_GraphText.f (k : Nat) (a0 : List ByteArray) (a1_0 : List Int) (a1_1 : List (Int × List Int)) : Option (ByteArray) := ((spec_GraphOk.f k a0 a1_0 a1_1).bind fun t1 => (if t1 = true then (spec_GraphText.p14 k a1_0 a1_1 0) else (some (⟨#[]⟩ : ByteArray))))
mutual
def spec_ReadGraph.p18 : Nat → List ByteArray → ByteArray → List ByteArray → List Int → List (Int × List Int) → Int → Option (List Int × List (Int × List Int) × Bool)
 | 0, _, _, _, _, _, _ => none
 | k + 1, x0, x1, x6, x8_0, x8_1, x9 => (if x9 < (x6.length : Int) then (spec_ReadGraph.p22 k x0 x1 x6 x8_0 x8_1 x9 (decide (x9 ≤ 400))) else (spec_ReadGraph.p22 k x0 x1 x6 x8_0 x8_1 x9 false))
def spec_ReadGraph.p22 : Nat → List ByteArray → ByteArray → List ByteArray → List Int → List (Int × List Int) → Int → Bool → Option (List Int × List (Int × List Int) × Bool)
 | 0, _, _, _, _, _, _, _ => none
 | k + 1, x0, x1, x6, x8_0, x8_1, x9, x28 => (if x28 = true then (if 0 ≤ x9 then (if x9 < (x6.length : Int) then ((spec_l1Split.f k (rdOf ByteArray.empty x6 x9)).bind fun t2 => ((spec_l7Nums.f k t2).bind fun t3 => (if x9 = 0 then (if 1 ≤ (t3.length : Int) then (if x8_0.length + (t3.drop 1).length ≤ 17592186044416 then (spec_ReadGraph.p18 k x0 x1 x6 (x8_0 ++ (t3.drop 1)) x8_1 (wrap64 (x9 + 1))) else none) else none) else (if 0 < (t3.length : Int) then (if 1 ≤ (t3.length : Int) then (if x8_1.length + 1 ≤ 4398046511104 then (spec_ReadGraph.p18 k x0 x1 x6 x8_0 ((x8_1 ++ ([((rd t3 0), t3)] : List (Int × List Int))).set x8_1.length (((x8_1 ++ ([((rd t3 0), t3)] : List (Int × List Int))).getD x8_1.length (0, [])).1, t3)) (wrap64 (x9 + 1))) else none) else none) else none)))) else none) else none) else (if x1.toList = (⟨#[]⟩ : ByteArray).toList then (some (([] : List Int), ([] : List (Int × List Int)), false)) else ((spec_GraphText.f k x0 x8_0 (Ty.cut (.pair (.int .i64) (.sl (.int .i64))) 1 x8_1)).bind fun t4 => (if t4.toList = x1.toList then (some (x8_0, x8_1, true)) else (some (([] : List Int), ([] : List (Int × List Int)), false))))))
end
def spec_ReadGraph.f (k : Nat) (a0 : List ByteArray) (a1 : ByteArray) : Option (List Int × List (Int × List Int) × Bool) := (if (a1.size : Int) > 200000 then (some (([] : List Int), ([] : List (Int × List Int)), false)) else ((spec_l1Lines.f k a1).bind fun t1 => (spec_ReadGraph.p18 k a0 a1 t1.1 ([] : List Int) ([] : List (Int × List Int)) 0)))
def strings_Split.f (a0 a1 : ByteArray) : Option (List ByteArray) :=
  if a0.size < 4294967281 then (if 1 ≤ a1.size then some (Lib.splitB a1 0 (Lib.countB a0 a1) a0) else none) else none

def strconv_ParseInt.g (a0 : ByteArray) : Int × Bool :=
  match Lib.parseIntB 64 a0.data.toList with
  | .ok v => (v, true)
  | .«syntax» => (0, false)
  | .range => (Lib.intSat 64 a0.data.toList, false)
def strconv_ParseInt.f (a0 : ByteArray) (a1 a2 : Int) : Option (Int × Bool) :=
  if a1 = 10 then (if a2 = 64 then (if a0.size ≤ 281474976710656 then some (strconv_ParseInt.g a0) else none) else none) else none

def strconv_FormatInt.f (a0 a1 : Int) : Option ByteArray :=
  if a1 = 10 then (if -9223372036854775808 ≤ a0 then (if a0 ≤ 9223372036854775807 then some ⟨(Lib.itoa a0).toArray⟩ else none) else none) else none

def impl_decimal.f (a0 : Int) : Option (ByteArray) := ((strconv_FormatInt.f a0 10).bind fun t1 => (some t1))
def strings_TrimPrefix.f (a0 a1 : ByteArray) : Option ByteArray := some ⟨(Lib.trimPrefix a0.data.toList a1.data.toList).toArray⟩

def impl_number.f (a0 : ByteArray) : Option (Int × Bool) := ((strconv_ParseInt.f a0 10 64).bind fun t1 => (if t1.2 = true then ((impl_decimal.f t1.1).bind fun t2 => (if t2.toList = a0.toList then ((strings_TrimPrefix.f a0 (⟨#[45]⟩ : ByteArray)).bind fun t3 => (some (t1.1, (decide ((t3.size : Int) ≤ 16))))) else (some (t1.1, false)))) else (some (t1.1, false))))
def impl_numbers.p8 : Nat → List Int → List ByteArray → Int → Int → Option (List Int × Bool)
 | 0, _, _, _, _ => none
 | k + 1, x4, x10, x11, x12 => (if x12 < x11 then (if 0 ≤ x12 then (if x12 < (x10.length : Int) then ((impl_number.f (rdOf ByteArray.empty x10 x12)).bind fun t1 => (if t1.2 = true then (if x4.length + 1 ≤ 17592186044416 then (impl_numbers.p8 k (x4 ++ ([t1.1] : List Int)) x10 x11 (wrap64 (x12 + 1))) else none) else (some (([] : List Int), false)))) else none) else none) else (some (x4, true)))
def impl_numbers.f (k : Nat) (a0 : List ByteArray) : Option (List Int × Bool) := (impl_numbers.p8 k ([] : List Int) a0 (a0.length : Int) 0)
def impl_size_string.f (a0 : List ByteArray) : Option (Int) := (some (a0.length : Int))
def impl_within.f (a0 : Int) (a1 : Int) (a2 : Int) : Option (Bool) := (if a0 ≥ a1 then (some (decide (a0 ≤ a2))) else (some false))
def strings_Trim.f (a0 a1 : ByteArray) : Option ByteArray :=
  if a0.size ≤ 9223372036854775807 then (if a1.size ≤ 1000 then (if a1.data.toList.all (fun b => decide (b.toNat < 128)) = true then some ⟨(Lib.trimS a0.data.toList a1.data.toList).toArray⟩ else none) else none) else none

def impl_isType.f (a0 : ByteArray) : Option (Bool) := ((impl_within.f (a0.size : Int) 1 23).bind fun t1 => (if t1 = true then ((strings_Trim.f a0 (⟨#[105, 114]⟩ : ByteArray)).bind fun t2 => (some (decide (t2.toList = (⟨#[]⟩ : ByteArray).toList)))) else (some false)))
def impl_TypesOk_1.f (a0 : ByteArray) : Option (Bool) := ((impl_isType.f a0).bind fun t1 => (some (!t1)))
def slices_IndexFunc_string_at_impl_TypesOk_1.p6 : Nat → List ByteArray → Int → Int → Option (Int)
 | 0, _, _, _ => none
 | k + 1, x0, x7, x8 => (if x8 < x7 then (if 0 ≤ x8 then (if x8 < (x0.length : Int) then ((impl_TypesOk_1.f (rdOf ByteArray.empty x0 x8)).bind fun t1 => (if t1 = true then (some x8) else (slices_IndexFunc_string_at_impl_TypesOk_1.p6 k x0 x7 (wrap64 (x8 + 1))))) else none) else none) else (some (-1)))
def slices_IndexFunc_string_at_impl_TypesOk_1.f (k : Nat) (a0 : List ByteArray) : Option (Int) := (slices_IndexFunc_string_at_impl_TypesOk_1.p6 k a0 (a0.length : Int) 0)
def slices_ContainsFunc_string_at_impl_TypesOk_1.f (k : Nat) (a0 : List ByteArray) : Option (Bool) := ((slices_IndexFunc_string_at_impl_TypesOk_1.f k a0).bind fun t1 => (some (decide (t1 ≥ 0))))
def impl_TypesOk.f (k : Nat) (a0 : List ByteArray) : Option (Bool) := ((impl_size_string.f a0).bind fun t1 => ((impl_within.f t1 1 12).bind fun t2 => (if t2 = true then ((slices_ContainsFunc_string_at_impl_TypesOk_1.f k a0).bind fun t3 => (some (!t3))) else (some false))))
def impl_size_implObj.f (a0 : List (Int × List Int)) : Option (Int) := (some (a0.length : Int))
def _impl_Graph_isNode.f (a0_0 : List Int) (a0_1 : List (Int × List Int)) (a1 : Int) : Option (Bool) := ((impl_size_implObj.f a0_1).bind fun t1 => ((impl_within.f a1 0 t1).bind fun t2 => (some t2)))
def impl_GraphOk_1.f (a0 : Int) (a1 : (List Int) × List (Int × List Int)) : Option (Bool) := ((_impl_Graph_isNode.f a1.1 a1.2 a0).bind fun t1 => (some (!t1)))
def slices_IndexFunc_int64_at_impl_GraphOk_1.p6 : Nat → List Int → (List Int) × List (Int × List Int) → Int → Int → Option (Int)
 | 0, _, _, _, _ => none
 | k + 1, x0, x1_0, x7, x8 => (if x8 < x7 then (if 0 ≤ x8 then (if x8 < (x0.length : Int) then ((impl_GraphOk_1.f (rd x0 x8) x1_0).bind fun t1 => (if t1 = true then (some x8) else (slices_IndexFunc_int64_at_impl_GraphOk_1.p6 k x0 x1_0 x7 (wrap64 (x8 + 1))))) else none) else none) else (some (-1)))
def slices_IndexFunc_int64_at_impl_GraphOk_1.f (k : Nat) (a0 : List Int) (a1_0 : (List Int) × List (Int × List Int)) : Option (Int) := (slices_IndexFunc_int64_at_impl_GraphOk_1.p6 k a0 a1_0 (a0.length : Int) 0)
def slices_ContainsFunc_int64_at_impl_GraphOk_1.f (k : Nat) (a0 : List Int) (a1_0 : (List Int) × List (Int × List Int)) : Option (Bool) := ((slices_IndexFunc_int64_at_impl_GraphOk_1.f k a0 a1_0).bind fun t1 => (some (decide (t1 ≥ 0))))
def impl_isObject_at__impl_Graph_isNode.p14 : Nat → List ByteArray → List Int → List (Int × List Int) → Int → List Int → List Int → Int → Int → Option (Bool)
 | 0, _, _, _, _, _, _, _, _ => none
 | k + 1, x0, x2_0_0, x2_0_1, x4_0, x4_1, x29, x30, x31 => (if x31 < x30 then (if 0 ≤ x31 then (if x31 < (x29.length : Int) then (if 0 ≤ x4_0 then (if x4_0 < (x0.length : Int) then (if 0 ≤ x31 then (if x31 < ((rdOf ByteArray.empty x0 x4_0).size : Int) then (if (byteAt (rdOf ByteArray.empty x0 x4_0) x31) = 114 then ((_impl_Graph_isNode.f x2_0_0 x2_0_1 (rd x29 x31)).bind fun t3 => (if t3 = true then (impl_isObject_at__impl_Graph_isNode.p14 k x0 x2_0_0 x2_0_1 x4_0 x4_1 x29 x30 (wrap64 (x31 + 1))) else (some false))) else (impl_isObject_at__impl_Graph_isNode.p14 k x0 x2_0_0 x2_0_1 x4_0 x4_1 x29 x30 (wrap64 (x31 + 1)))) else none) else none) else none) else none) else none) else none) else (some true))
def impl_isObject_at__impl_Graph_isNode.f (k : Nat) (a0 : List ByteArray) (a1_0 : Int) (a1_1 : List Int) (a2_0_0 : List Int) (a2_0_1 : List (Int × List Int)) : Option (Bool) := ((impl_size_string.f a0).bind fun t1 => ((impl_within.f a1_0 0 (wrap64 (t1 - 1))).bind fun t2 => (if t2 = true then (if 0 ≤ a1_0 then (if a1_0 < (a0.length : Int) then (if (a1_1.length : Int) = ((rdOf ByteArray.empty a0 a1_0).size : Int) then (impl_isObject_at__impl_Graph_isNode.p14 k a0 a2_0_0 a2_0_1 a1_0 a1_1 a1_1 (a1_1.length : Int) 0) else (some false)) else none) else none) else (some false))))
def impl_GraphOk_2.f (k : Nat) (a0_0 : Int) (a0_1 : List Int) (a1 : List ByteArray) (a2 : (List Int) × List (Int × List Int)) : Option (Bool) := ((impl_isObject_at__impl_Graph_isNode.f k a1 a0_0 a0_1 a2.1 a2.2).bind fun t1 => (some (!t1)))
def slices_IndexFunc_implObj_at_impl_GraphOk_2.p6 : Nat → List (Int × List Int) → List ByteArray → (List Int) × List (Int × List Int) → Int → Int → Option (Int)
 | 0, _, _, _, _, _ => none
 | k + 1, x0, x1_0, x1_1, x7, x8 => (if x8 < x7 then (if 0 ≤ x8 then (if x8 < (x0.length : Int) then ((impl_GraphOk_2.f k (rdOf (0, []) x0 x8).1 (rdOf (0, []) x0 x8).2 x1_0 x1_1).bind fun t1 => (if t1 = true then (some x8) else (slices_IndexFunc_implObj_at_impl_GraphOk_2.p6 k x0 x1_0 x1_1 x7 (wrap64 (x8 + 1))))) else none) else none) else (some (-1)))
def slices_IndexFunc_implObj_at_impl_GraphOk_2.f (k : Nat) (a0 : List (Int × List Int)) (a1_0 : List ByteArray) (a1_1 : (List Int) × List (Int × List Int)) : Option (Int) := (slices_IndexFunc_implObj_at_impl_GraphOk_2.p6 k a0 a1_0 a1_1 (a0.length : Int) 0)
def slices_ContainsFunc_implObj_at_impl_GraphOk_2.f (k : Nat) (a0 : List (Int × List Int)) (a1_0 : List ByteArray) (a1_1 : (List Int) × List (Int × List Int)) : Option (Bool) := ((slices_IndexFunc_implObj_at_impl_GraphOk_2.f k a0 a1_0 a1_1).bind fun t1 => (some (decide (t1 ≥ 0))))
def impl_GraphOk.p5 : Nat → List ByteArray → List Int → List (Int × List Int) → Bool → Option (Bool)
 | 0, _, _, _, _ => none
 | k + 1, x2_0, x3_0, x3_1, x20 => (if x20 = true then (some false) else ((slices_ContainsFunc_int64_at_impl_GraphOk_1.f k x3_0 (x3_0, x3_1)).bind fun t2 => (if t2 = true then (some false) else ((slices_ContainsFunc_implObj_at_impl_GraphOk_2.f k x3_1 x2_0 (x3_0, x3_1)).bind fun t3 => (some (!t3))))))
def impl_GraphOk.f (k : Nat) (a0 : List ByteArray) (a1_0 : List Int) (a1_1 : List (Int × List Int)) : Option (Bool) := ((impl_TypesOk.f k a0).bind fun t1 => (if t1 = true then (if (a1_0.length : Int) > 40 then (impl_GraphOk.p5 k a0 a1_0 a1_1 true) else (impl_GraphOk.p5 k a0 a1_0 a1_1 (decide ((a1_1.length : Int) > 400)))) else (impl_GraphOk.p5 k a0 a1_0 a1_1 true)))
def impl_spaced.p8 : Nat → ByteArray → List Int → Int → Int → Option (ByteArray)
 | 0, _, _, _, _ => none
 | k + 1, x3, x6, x7, x8 => (if x8 < x7 then (if 0 ≤ x8 then (if x8 < (x6.length : Int) then ((impl_decimal.f (rd x6 x8)).bind fun t1 => (if (⟨#[32]⟩ : ByteArray).size + t1.size ≤ 9223372036854775807 then (if x3.size + ((⟨#[32]⟩ : ByteArray) ++ t1).size ≤ 9223372036854775807 then (impl_spaced.p8 k (x3 ++ ((⟨#[32]⟩ : ByteArray) ++ t1)) x6 x7 (wrap64 (x8 + 1))) else none) else none)) else none) else none) else (some x3))
def impl_spaced.f (k : Nat) (a0 : List Int) : Option (ByteArray) := (impl_spaced.p8 k (⟨#[]⟩ : ByteArray) a0 (a0.length : Int) 0)
def strings_Builder_WriteString.f (a0 : List Int) (a1 : ByteArray) : Option (List Int × Int) := if a0.length + a1.size ≤ 140737488355328 then some (a0 ++ numsOf a1, (a1.size : Int)) else none

def impl_GraphText_1.f (a0 : Int) : Option (Bool) := ((impl_within.f a0 (-999999999999999) 999999999999999).bind fun t1 => (some (!t1)))
def slices_IndexFunc_int64_at_impl_GraphText_1.p6 : Nat → List Int → Int → Int → Option (Int)
 | 0, _, _, _ => none
 | k + 1, x0, x7, x8 => (if x8 < x7 then (if 0 ≤ x8 then (if x8 < (x0.length : Int) then ((impl_GraphText_1.f (rd x0 x8)).bind fun t1 => (if t1 = true then (some x8) else (slices_IndexFunc_int64_at_impl_GraphText_1.p6 k x0 x7 (wrap64 (x8 + 1))))) else none) else none) else (some (-1)))
def slices_IndexFunc_int64_at_impl_GraphText_1.f (k : Nat) (a0 : List Int) : Option (Int) := (slices_IndexFunc_int64_at_impl_GraphText_1.p6 k a0 (a0.length : Int) 0)
def slices_ContainsFunc_int64_at_impl_GraphText_1.f (k : Nat) (a0 : List Int) : Option (Bool) := ((slices_IndexFunc_int64_at_impl_GraphText_1.f k a0).bind fun t1 => (some (decide (t1 ≥ 0))))
def strings_Builder_String.f (a0 : List Int) : Option ByteArray := if okB a0 = true then some (strOf a0) else none

def impl_GraphText.p18 : Nat → List Int → List (Int × List Int) → Int → Int → Option (ByteArray)
 | 0, _, _, _, _ => none
 | k + 1, x5, x19, x20, x21 => (if x21 < x20 then (if 0 ≤ x21 then (if x21 < (x19.length : Int) then ((slices_ContainsFunc_int64_at_impl_GraphText_1.f k (rdOf (0, []) x19 x21).2).bind fun t4 => (if t4 = true then (some (⟨#[]⟩ : ByteArray)) else ((impl_decimal.f (rdOf (0, []) x19 x21).1).bind fun t5 => ((impl_spaced.f k (rdOf (0, []) x19 x21).2).bind fun t6 => (if t5.size + t6.size ≤ 9223372036854775807 then (if (t5 ++ t6).size + (⟨#[10]⟩ : ByteArray).size ≤ 9223372036854775807 then ((strings_Builder_WriteString.f x5 ((t5 ++ t6) ++ (⟨#[10]⟩ : ByteArray))).bind fun t7 => (impl_GraphText.p18 k t7.1 x19 x20 (wrap64 (x21 + 1)))) else none) else none))))) else none) else none) else ((strings_Builder_String.f x5).bind fun t8 => (some t8)))
def impl_GraphText.f (k : Nat) (a0 : List ByteArray) (a1_0 : List Int) (a1_1 : List (Int × List Int)) : Option (ByteArray) := ((impl_GraphOk.f k a0 a1_0 a1_1).bind fun t1 => (if t1 = true then ((impl_spaced.f k a1_0).bind fun t2 => (if (⟨#[114, 111, 111, 116, 115]⟩ : ByteArray).size + t2.size ≤ 9223372036854775807 then (if ((⟨#[114, 111, 111, 116, 115]⟩ : ByteArray) ++ t2).size + (⟨#[10]⟩ : ByteArray).size ≤ 9223372036854775807 then ((strings_Builder_WriteString.f ([] : List Int) (((⟨#[114, 111, 111, 116, 115]⟩ : ByteArray) ++ t2) ++ (⟨#[10]⟩ : ByteArray))).bind fun t3 => (impl_GraphText.p18 k t3.1 a1_1 (a1_1.length : Int) 0)) else none) else none)) else (some (⟨#[]⟩ : ByteArray))))
mutual
def impl_ReadGraph.p25 : Nat → List ByteArray → ByteArray → List ByteArray → Int → List Int → Bool → Option (List Int × List (Int × List Int) × Bool)
 | 0, _, _, _, _, _, _ => none
 | k + 1, x0, x1, x6, x7, x9_0, x53 => (if x53 = true then (some (([] : List Int), ([] : List (Int × List Int)), false)) else (if 0 ≤ x7 then (if x7 ≤ (x6.length : Int) then (if 1 ≤ x7 then (impl_ReadGraph.p34 k x0 x1 x9_0 ([] : List (Int × List Int)) ((x6.take x7.toNat).drop 1) (((x6.take x7.toNat).drop 1).length : Int) 0) else none) else none) else none))
def impl_ReadGraph.p34 : Nat → List ByteArray → ByteArray → List Int → List (Int × List Int) → List ByteArray → Int → Int → Option (List Int × List (Int × List Int) × Bool)
 | 0, _, _, _, _, _, _, _ => none
 | k + 1, x0, x1, x9_0, x9_1, x57, x58, x59 => (if x59 < x58 then (if 0 ≤ x59 then (if x59 < (x57.length : Int) then ((strings_Split.f (rdOf ByteArray.empty x57 x59) (⟨#[32]⟩ : ByteArray)).bind fun t4 => ((impl_numbers.f k t4).bind fun t5 => (if t5.2 = true then (if 0 < (t5.1.length : Int) then (if 1 ≤ (t5.1.length : Int) then (if x9_1.length + 1 ≤ 4398046511104 then (impl_ReadGraph.p34 k x0 x1 x9_0 ((x9_1 ++ ([((rd t5.1 0), t5.1)] : List (Int × List Int))).set x9_1.length (((x9_1 ++ ([((rd t5.1 0), t5.1)] : List (Int × List Int))).getD x9_1.length (0, [])).1, t5.1)) x57 x58 (wrap64 (x59 + 1))) else none) else none) else none) else (some (([] : List Int), ([] : List (Int × List Int)), false))))) else none) else none) else ((impl_GraphText.f k x0 x9_0 (Ty.cut (.pair (.int .i64) (.sl (.int .i64))) 1 x9_1)).bind fun t6 => (if t6.toList = x1.toList then (some (x9_0, x9_1, true)) else (some (([] : List Int), ([] : List (Int × List Int)), false)))))
end
def impl_ReadGraph.f (k : Nat) (a0 : List ByteArray) (a1 : ByteArray) : Option (List Int × List (Int × List Int) × Bool) := ((strings_Split.f a1 (⟨#[10]⟩ : ByteArray)).bind fun t1 => (if (wrap64 ((t1.length : Int) - 1)) < 1 then (some (([] : List Int), ([] : List (Int × List Int)), false)) else (if (wrap64 ((t1.length : Int) - 1)) > 401 then (some (([] : List Int), ([] : List (Int × List Int)), false)) else (if 0 ≤ (wrap64 ((t1.length : Int) - 1)) then (if (wrap64 ((t1.length : Int) - 1)) < (t1.length : Int) then (if (rdOf ByteArray.empty t1 (wrap64 ((t1.length : Int) - 1))).toList = (⟨#[]⟩ : ByteArray).toList then (if 0 < (t1.length : Int) then ((strings_Split.f (rdOf ByteArray.empty t1 0) (⟨#[32]⟩ : ByteArray)).bind fun t2 => (if 1 ≤ (t2.length : Int) then ((impl_numbers.f k ((t2.take (t2.length : Int).toNat).drop 1)).bind fun t3 => (if t3.2 = true then (if 0 < (t2.length : Int) then (impl_ReadGraph.p25 k a0 a1 t1 (wrap64 ((t1.length : Int) - 1)) t3.1 (!decide ((rdOf ByteArray.empty t2 0).toList = (⟨#[114, 111, 111, 116, 115]⟩ : ByteArray).toList))) else none) else (impl_ReadGraph.p25 k a0 a1 t1 (wrap64 ((t1.length : Int) - 1)) t3.1 true))) else none)) else none) else (some (([] : List Int), ([] : List (Int × List Int)), false))) else none) else none))))
def laws_eqInt64S.p14 : Nat → List Int → List Int → Int → Option (Bool)
 | 0, _, _, _ => none
 | k + 1, x0, x1, x5 => (if x5 < (x0.length : Int) then (if 0 ≤ x5 then (if x5 < (x0.length : Int) then (if 0 ≤ x5 then (if x5 < (x1.length : Int) then (if (rd x0 x5) = (rd x1 x5) then (laws_eqInt64S.p14 k x0 x1 (wrap64 (x5 + 1))) else (some false)) else none) else none) else none) else none) else (some true))
def laws_eqInt64S.f (k : Nat) (a0 : List Int) (a1 : List Int) : Option (Bool) := (if (a0.length : Int) = (a1.length : Int) then (laws_eqInt64S.p14 k a0 a1 0) else (some false))
def laws_eqObj.f (k : Nat) (a0_0 : Int) (a0_1 : List Int) (a1_0 : Int) (a1_1 : List Int) : Option (Bool) := (if a0_0 = a1_0 then ((laws_eqInt64S.f k a0_1 a1_1).bind fun t1 => (if t1 = true then (some true) else (some false))) else (some false))
def laws_eqObjS.p14 : Nat → List (Int × List Int) → List (Int × List Int) → Int → Option (Bool)
 | 0, _, _, _ => none
 | k + 1, x0, x1, x5 => (if x5 < (x0.length : Int) then (if 0 ≤ x5 then (if x5 < (x0.length : Int) then (if 0 ≤ x5 then (if x5 < (x1.length : Int) then ((laws_eqObj.f k (rdOf (0, []) x0 x5).1 (rdOf (0, []) x0 x5).2 (rdOf (0, []) x1 x5).1 (rdOf (0, []) x1 x5).2).bind fun t1 => (if t1 = true then (laws_eqObjS.p14 k x0 x1 (wrap64 (x5 + 1))) else (some false))) else none) else none) else none) else none) else (some true))
def laws_eqObjS.f (k : Nat) (a0 : List (Int × List Int)) (a1 : List (Int × List Int)) : Option (Bool) := (if (a0.length : Int) = (a1.length : Int) then (laws_eqObjS.p14 k a0 a1 0) else (some false))
def laws_eqGraph.f (k : Nat) (a0_0 : List Int) (a0_1 : List (Int × List Int)) (a1_0 : List Int) (a1_1 : List (Int × List Int)) : Option (Bool) := ((laws_eqInt64S.f k a0_0 a1_0).bind fun t1 => (if t1 = true then ((laws_eqObjS.f k a0_1 a1_1).bind fun t2 => (if t2 = true then (some true) else (some false))) else (some false)))
def laws_eqStringS.p14 : Nat → List ByteArray → List ByteArray → Int → Option (Bool)
 | 0, _, _, _ => none
 | k + 1, x0, x1, x5 => (if x5 < (x0.length : Int) then (if 0 ≤ x5 then (if x5 < (x0.length : Int) then (if 0 ≤ x5 then (if x5 < (x1.length : Int) then (if (rdOf ByteArray.empty x0 x5).toList = (rdOf ByteArray.empty x1 x5).toList then (laws_eqStringS.p14 k x0 x1 (wrap64 (x5 + 1))) else (some false)) else none) else none) else none) else none) else (some true))
def laws_eqStringS.f (k : Nat) (a0 : List ByteArray) (a1 : List ByteArray) : Option (Bool) := (if (a0.length : Int) = (a1.length : Int) then (laws_eqStringS.p14 k a0 a1 0) else (some false))
def laws_markText.p14 : Nat → Int → ByteArray → Option (ByteArray)
 | 0, _, _ => none
 | k + 1, x0, x3 => (if x0 > 0 then (if (strOf ([((wrap64 (48 + (Int.tmod x0 10))) % 256)] : List Int)).size + x3.size ≤ 9223372036854775807 then (laws_markText.p14 k (wrap64 (Int.tdiv x0 10)) ((strOf ([((wrap64 (48 + (Int.tmod x0 10))) % 256)] : List Int)) ++ x3)) else none) else (if (⟨#[109]⟩ : ByteArray).size + x3.size ≤ 9223372036854775807 then (some ((⟨#[109]⟩ : ByteArray) ++ x3)) else none))
def laws_markText.f (k : Nat) (a0 : Int) : Option (ByteArray) := (if a0 ≤ 0 then (some (⟨#[109, 48]⟩ : ByteArray)) else (laws_markText.p14 k a0 (⟨#[]⟩ : ByteArray)))
def laws_markStringS.p6 : Nat → List ByteArray → Int → Int → Option (List ByteArray × Int)
 | 0, _, _, _ => none
 | k + 1, h0, x1, x5 => (if x5 < (h0.length : Int) then ((laws_markText.f k x1).bind fun t1 => (if 0 ≤ x5 then (if x5 < (h0.length : Int) then (laws_markStringS.p6 k (h0.set x5.toNat t1) (wrap64 (x1 + 1)) (wrap64 (x5 + 1))) else none) else none)) else (some (h0, x1)))
def laws_markStringS.f (k : Nat) (a0 : List ByteArray) (a1 : Int) : Option (List ByteArray × Int) := (laws_markStringS.p6 k a0 a1 0)
def laws_markInt64S.p6 : Nat → List Int → Int → Int → Option (List Int × Int)
 | 0, _, _, _ => none
 | k + 1, h0, x1, x5 => (if x5 < (h0.length : Int) then (if 0 ≤ x5 then (if x5 < (h0.length : Int) then (laws_markInt64S.p6 k (h0.set x5.toNat x1) (wrap64 (x1 + 1)) (wrap64 (x5 + 1))) else none) else none) else (some (h0, x1)))
def laws_markInt64S.f (k : Nat) (a0 : List Int) (a1 : Int) : Option (List Int × Int) := (laws_markInt64S.p6 k a0 a1 0)
def laws_markInt64S_s1.p6 : Nat → List Int → Int → Int → Option (List Int × Int)
 | 0, _, _, _ => none
 | k + 1, h0, x1, x5 => (if x5 < ((h0.length - 1 : Nat) : Int) then (if 0 ≤ x5 then (if x5 < ((h0.length - 1 : Nat) : Int) then (laws_markInt64S_s1.p6 k (h0.set (1 + x5.toNat) x1) (wrap64 (x1 + 1)) (wrap64 (x5 + 1))) else none) else none) else (some (h0, x1)))
def laws_markInt64S_s1.f (k : Nat) (a0 : List Int) (a1 : Int) : Option (List Int × Int) := (laws_markInt64S_s1.p6 k a0 a1 0)
def laws_markObjS_o1.p6 : Nat → List (Int × List Int) → Int → Int → Option (List (Int × List Int) × Int)
 | 0, _, _, _ => none
 | k + 1, h0, x1, x5 => (if x5 < (h0.length : Int) then (if 0 ≤ x5 then (if x5 < (h0.length : Int) then (if 0 ≤ x5 then (if x5 < ((h0.set x5.toNat (x1, (rdOf (0, []) h0 x5).2)).length : Int) then ((laws_markInt64S_s1.f k (rdOf (0, []) (h0.set x5.toNat (x1, (rdOf (0, []) h0 x5).2)) x5).2 (wrap64 (x1 + 1))).bind fun t1 => (laws_markObjS_o1.p6 k ((h0.set x5.toNat (x1, (rdOf (0, []) h0 x5).2)).set x5.toNat ((rdOf (0, []) (h0.set x5.toNat (x1, (rdOf (0, []) h0 x5).2)) x5).1, t1.1)) t1.2 (wrap64 (x5 + 1)))) else none) else none) else none) else none) else (some (h0, x1)))
def laws_markObjS_o1.f (k : Nat) (a0 : List (Int × List Int)) (a1 : Int) : Option (List (Int × List Int) × Int) := (laws_markObjS_o1.p6 k a0 a1 0)
def laws_markGraph_o1.f (k : Nat) (a0_0 : List Int) (a0_1 : List (Int × List Int)) (a1 : Int) : Option (List Int × List (Int × List Int) × Int) := ((laws_markInt64S.f k a0_0 a1).bind fun t1 => ((laws_markObjS_o1.f k a0_1 t1.2).bind fun t2 => (some (t1.1, t2.1, t2.2))))
def laws_heldInt64S.p6 : Nat → List Int → Int → Int → Option (Int)
 | 0, _, _, _ => none
 | k + 1, x0, x1, x5 => (if x5 < (x0.length : Int) then (if 0 ≤ x5 then (if x5 < (x0.length : Int) then (if (rd x0 x5) = x1 then (laws_heldInt64S.p6 k x0 (wrap64 (x1 + 1)) (wrap64 (x5 + 1))) else (some (-1))) else none) else none) else (some x1))
def laws_heldInt64S.f (k : Nat) (a0 : List Int) (a1 : Int) : Option (Int) := (laws_heldInt64S.p6 k a0 a1 0)
def laws_heldObjS.p6 : Nat → List (Int × List Int) → Int → Int → Option (Int)
 | 0, _, _, _ => none
 | k + 1, x0, x1, x5 => (if x5 < (x0.length : Int) then (if 0 ≤ x5 then (if x5 < (x0.length : Int) then (if (rdOf (0, []) x0 x5).1 = x1 then (if 0 ≤ x5 then (if x5 < (x0.length : Int) then ((laws_heldInt64S.f k (rdOf (0, []) x0 x5).2 (wrap64 (x1 + 1))).bind fun t1 => (if t1 < 0 then (some (-1)) else (laws_heldObjS.p6 k x0 t1 (wrap64 (x5 + 1))))) else none) else none) else (some (-1))) else none) else none) else (some x1))
def laws_heldObjS.f (k : Nat) (a0 : List (Int × List Int)) (a1 : Int) : Option (Int) := (laws_heldObjS.p6 k a0 a1 0)
def laws_heldGraph.f (k : Nat) (a0_0 : List Int) (a0_1 : List (Int × List Int)) (a1 : Int) : Option (Int) := ((laws_heldInt64S.f k a0_0 a1).bind fun t1 => (if t1 < 0 then (some (-1)) else ((laws_heldObjS.f k a0_1 t1).bind fun t2 => (if t2 < 0 then (some (-1)) else (some t2)))))
mutual
def laws_FnExactReadGraph.p31 : Nat → List ByteArray → ByteArray → List Int → List (Int × List Int) → Bool → List ByteArray → List Int → List (Int × List Int) → Bool → Bool → Option (Bool)
 | 0, _, _, _, _, _, _, _, _, _, _ => none
 | k + 1, x0, x1, x6_0, x6_1, x7, x8, x9_0, x9_1, x10, x47 => (if x47 = true then (some false) else ((laws_toStringS.f k x0).bind fun t13 => ((laws_eqStringS.f k x8 t13).bind fun t14 => (if t14 = true then ((laws_markStringS.f k x8 1).bind fun t15 => (if t15.2 < 0 then (laws_FnExactReadGraph.p51 k x0 x1 x6_0 x6_1 x7 x9_0 x9_1 true) else ((laws_eqGraph.f k x9_0 (Ty.cut (.pair (.int .i64) (.sl (.int .i64))) 1 x9_1) x6_0 (Ty.cut (.pair (.int .i64) (.sl (.int .i64))) 1 x6_1)).bind fun t16 => (if t16 = true then (laws_FnExactReadGraph.p51 k x0 x1 x6_0 x6_1 x7 x9_0 x9_1 (!decide (x10 = x7))) else (laws_FnExactReadGraph.p51 k x0 x1 x6_0 x6_1 x7 x9_0 x9_1 true))))) else (some false)))))
def laws_FnExactReadGraph.p51 : Nat → List ByteArray → ByteArray → List Int → List (Int × List Int) → Bool → List Int → List (Int × List Int) → Bool → Option (Bool)
 | 0, _, _, _, _, _, _, _, _ => none
 | k + 1, x0, x1, x6_0, x6_1, x7, x9_0, x9_1, x68 => (if x68 = true then (some false) else ((laws_markGraph_o1.f k x9_0 x9_1 1).bind fun t7 => ((laws_heldGraph.f k t7.1 (Ty.cut (.pair (.int .i64) (.sl (.int .i64))) 1 t7.2.1) 1).bind fun t8 => (if t8 < 0 then (some false) else (if t8 = t7.2.2 then ((laws_toStringS.f k x0).bind fun t9 => ((impl_ReadGraph.f k t9 x1).bind fun t10 => ((laws_eqGraph.f k t10.1 (Ty.cut (.pair (.int .i64) (.sl (.int .i64))) 1 t10.2.1) x6_0 (Ty.cut (.pair (.int .i64) (.sl (.int .i64))) 1 x6_1)).bind fun t11 => (if t11 = true then (if t10.2.2 = x7 then ((laws_heldGraph.f k t7.1 (Ty.cut (.pair (.int .i64) (.sl (.int .i64))) 1 t7.2.1) 1).bind fun t12 => (if t12 < 0 then (some false) else (if t12 = t7.2.2 then (some true) else (some false)))) else (some false)) else (some false))))) else (some false))))))
end
def laws_FnExactReadGraph.f (k : Nat) (a0 : List ByteArray) (a1 : ByteArray) : Option (Bool) := (if (a1.size : Int) > 1048576 then (some true) else ((laws_szStringS.f k a0 1048576).bind fun t1 => (if t1 < 0 then (some true) else ((laws_toStringS.f k a0).bind fun t2 => ((spec_ReadGraph.f k t2 a1).bind fun t3 => ((laws_toStringS.f k a0).bind fun t4 => ((impl_ReadGraph.f k t4 a1).bind fun t5 => ((laws_eqGraph.f k t5.1 (Ty.cut (.pair (.int .i64) (.sl (.int .i64))) 1 t5.2.1) t3.1 (Ty.cut (.pair (.int .i64) (.sl (.int .i64))) 1 t3.2.1)).bind fun t6 => (if t6 = true then (laws_FnExactReadGraph.p31 k a0 a1 t3.1 t3.2.1 t3.2.2 t4 t5.1 t5.2.1 t5.2.2 (!decide (t5.2.2 = t3.2.2))) else (laws_FnExactReadGraph.p31 k a0 a1 t3.1 t3.2.1 t3.2.2 t4 t5.1 t5.2.1 t5.2.2 true))))))))))
/-- What is left to show. -/
def laws_FnExactReadGraph.Pure : Prop := ∀ (x0 : List ByteArray) (x1 : ByteArray), Ty.ok (.sl .str) x0 → Ty.ok .str x1 → ∃ k, laws_FnExactReadGraph.f k x0 x1 = some true
end
end Go.Proofs.YtommgpkeicpokaaGreatDoor.Abs
