import Derived.Test.YtgfeafcgpeclcaaDoorShelfSt
import Derived.Shelf.Strings.SlTrimAscii
import Derived.Test.YtgfeafcgpeclcaaDoorShelfSl
import Derived.Test.YtgfeafcgpeclcaaDoorAbsLaw
import Derived.Test.YtgfeafcgpeclcaaDoorProg
namespace Go.Proofs.YtgfeafcgpeclcaaDoor.Abs
open Go Go.RowKit
set_option linter.unusedVariables false
set_option linter.unusedSectionVars false
set_option linter.unusedSimpArgs false
noncomputable section

def laws_big.f (a0 : List Int) : Option (Bool) := (some (decide ((a0.length : Int) > 1048576)))
def laws_big.a : FnA (Bool) := ⟨6, [.tmp 2], .bool, [], [], fun x H => match x, H with
  | .bs false r, [] => some r
  | _, _ => none⟩
def laws_big.s : Spec := mkS [.con (.int .u8)] (fun k avs H => match avs, H with
  | [.con (.int .u8) a0], [] => some (laws_big.f a0)
  | _, _ => none) (fun r => (.bs false r, []))
def laws_big.E : Env := []
def laws_big.G (k p : Nat) (avs : List AV) (H : List HE) : Option (Bool) := none
set_option maxRecDepth 100000 in
theorem laws_big.eq (k : Nat) (a0 : List Int) : fromTop Tryd.prog laws_big.E k laws_big.a (laws_big.G k) 1000 (bodyOf Tryd.prog 46) [.con (.int .u8) a0] [] = laws_big.f a0 := by kernel_rfl
theorem laws_big.E_ok : EnvOk Tryd.prog laws_big.E := trivial
theorem laws_big.sound : Sound Tryd.prog 46 laws_big.s := by
  refine func_sound (f := laws_big.a) (G := laws_big.G) (fn := Tryd.f46) (body := bodyOf Tryd.prog 46) 1000 (by kernel_rfl) laws_big.E_ok Tryd.func46 (by kernel_rfl) (by kernel_rfl) (by kernel_rfl) (ptsOk_of (by kernel_rfl)) ?_ ?_ ?_ ?_
  · intro r H x h
    unfold laws_big.a at h
    simp only at h
    split at h
    · cases h; rfl
    · cases h
  · intro q avs H; rfl
  · intro k q pt avs H x _ h; cases h
  · intro k avs H o h
    try dsimp only at h
    split at h
    · cases h; exact laws_big.eq _ _
    · cases h

def spec_l1Open.f (a0 : List Int) : Option (List Int × Int) := (some (a0, 0))
def spec_l1Open.a : FnA (List Int × Int) := ⟨6, [.tmp 2], .box [.con (.int .u8), .val], [], [], fun x H => match x, H with
  | .box 0 0, [.box [.con (.int .u8) r_0, .v (.int .i64 r_1)]] => some (r_0, r_1)
  | _, _ => none⟩
def spec_l1Open.s : Spec := mkS [.con (.int .u8)] (fun k avs H => match avs, H with
  | [.con (.int .u8) a0], [] => some (spec_l1Open.f a0)
  | _, _ => none) (fun r => (.box 0 0, [.box [.con (.int .u8) r.1, .v (.int .i64 r.2)]]))
def spec_l1Open.E : Env := []
def spec_l1Open.G (k p : Nat) (avs : List AV) (H : List HE) : Option (List Int × Int) := none
set_option maxRecDepth 100000 in
theorem spec_l1Open.eq (k : Nat) (a0 : List Int) : fromTop Tryd.prog spec_l1Open.E k spec_l1Open.a (spec_l1Open.G k) 1000 (bodyOf Tryd.prog 80) [.con (.int .u8) a0] [] = spec_l1Open.f a0 := by kernel_rfl
theorem spec_l1Open.E_ok : EnvOk Tryd.prog spec_l1Open.E := trivial
theorem spec_l1Open.sound : Sound Tryd.prog 80 spec_l1Open.s := by
  refine func_sound (f := spec_l1Open.a) (G := spec_l1Open.G) (fn := Tryd.f80) (body := bodyOf Tryd.prog 80) 1000 (by kernel_rfl) spec_l1Open.E_ok Tryd.func80 (by kernel_rfl) (by kernel_rfl) (by kernel_rfl) (ptsOk_of (by kernel_rfl)) ?_ ?_ ?_ ?_
  · intro r H x h
    unfold spec_l1Open.a at h
    simp only at h
    split at h
    · cases h; rfl
    · cases h
  · intro q avs H; rfl
  · intro k q pt avs H x _ h; cases h
  · intro k avs H o h
    try dsimp only at h
    split at h
    · cases h; exact spec_l1Open.eq _ _
    · cases h

def spec_l1Rd_next.f (a0_0 : List Int) (a0_1 : Int) : Option (List Int × Int × Int) := (if a0_1 ≥ (a0_0.length : Int) then (some (a0_0, a0_1, 0)) else (if 0 ≤ (wrap64 ((wrap64 (a0_1 + 1)) - 1)) then (if (wrap64 ((wrap64 (a0_1 + 1)) - 1)) < (a0_0.length : Int) then (some (a0_0, (wrap64 (a0_1 + 1)), (wrap64 (rd a0_0 (wrap64 ((wrap64 (a0_1 + 1)) - 1)))))) else none) else none))
def spec_l1Rd_next.a : FnA (List Int × Int × Int) := ⟨32, [.tmp 2], .val, [.box [.con (.int .u8), .val]], [], fun x H => match x, H with
  | .v (.int .i64 r), [.box [.con (.int .u8) h0_0, .v (.int .i64 h0_1)]] => some (h0_0, h0_1, r)
  | _, _ => none⟩
def spec_l1Rd_next.s : Spec := mkS [.box [.con (.int .u8), .val]] (fun k avs H => match avs, H with
  | [.box 0 0], [.box [.con (.int .u8) a0_0, .v (.int .i64 a0_1)]] => some (spec_l1Rd_next.f a0_0 a0_1)
  | _, _ => none) (fun r => (.v (.int .i64 r.2.2), [.box [.con (.int .u8) r.1, .v (.int .i64 r.2.1)]]))
def spec_l1Rd_next.E : Env := []
def spec_l1Rd_next.G (k p : Nat) (avs : List AV) (H : List HE) : Option (List Int × Int × Int) := none
set_option maxRecDepth 100000 in
theorem spec_l1Rd_next.eq (k : Nat) (a0_0 : List Int) (a0_1 : Int) : fromTop Tryd.prog spec_l1Rd_next.E k spec_l1Rd_next.a (spec_l1Rd_next.G k) 1000 (bodyOf Tryd.prog 107) [.box 0 0] [.box [.con (.int .u8) a0_0, .v (.int .i64 a0_1)]] = spec_l1Rd_next.f a0_0 a0_1 := by kernel_rfl
theorem spec_l1Rd_next.E_ok : EnvOk Tryd.prog spec_l1Rd_next.E := trivial
theorem spec_l1Rd_next.sound : Sound Tryd.prog 107 spec_l1Rd_next.s := by
  refine func_sound (f := spec_l1Rd_next.a) (G := spec_l1Rd_next.G) (fn := Tryd.f107) (body := bodyOf Tryd.prog 107) 1000 (by kernel_rfl) spec_l1Rd_next.E_ok Tryd.func107 (by kernel_rfl) (by kernel_rfl) (by kernel_rfl) (ptsOk_of (by kernel_rfl)) ?_ ?_ ?_ ?_
  · intro r H x h
    unfold spec_l1Rd_next.a at h
    simp only at h
    split at h
    · cases h; rfl
    · cases h
  · intro q avs H; rfl
  · intro k q pt avs H x _ h; cases h
  · intro k avs H o h
    try dsimp only at h
    split at h
    · cases h; exact spec_l1Rd_next.eq _ _ _
    · cases h

def spec_l1Rd_below.f (a0_0 : List Int) (a0_1 : Int) (a1 : Int) : Option (List Int × Int × Int) := (if a1 ≤ 1 then (some (a0_0, a0_1, 0)) else (if a1 ≤ 256 then ((spec_l1Rd_next.f a0_0 a0_1).bind fun t1 => (if a1 = 0 then none else (some (t1.1, t1.2.1, (Int.tmod t1.2.2 a1))))) else ((spec_l1Rd_next.f a0_0 a0_1).bind fun t2 => ((spec_l1Rd_next.f t2.1 t2.2.1).bind fun t3 => (if a1 = 0 then none else (some (t3.1, t3.2.1, (Int.tmod (wrap64 ((wrap64 (t2.2.2 * 256)) + t3.2.2)) a1))))))))
def spec_l1Rd_below.a : FnA (List Int × Int × Int) := ⟨24, [.tmp 4], .val, [.box [.con (.int .u8), .val]], [], fun x H => match x, H with
  | .v (.int .i64 r), [.box [.con (.int .u8) h0_0, .v (.int .i64 h0_1)]] => some (h0_0, h0_1, r)
  | _, _ => none⟩
def spec_l1Rd_below.s : Spec := mkS [.box [.con (.int .u8), .val], .val] (fun k avs H => match avs, H with
  | [.box 0 0, .v (.int .i64 a1)], [.box [.con (.int .u8) a0_0, .v (.int .i64 a0_1)]] => some (spec_l1Rd_below.f a0_0 a0_1 a1)
  | _, _ => none) (fun r => (.v (.int .i64 r.2.2), [.box [.con (.int .u8) r.1, .v (.int .i64 r.2.1)]]))
def spec_l1Rd_below.E : Env := [((107, []), spec_l1Rd_next.s)]
def spec_l1Rd_below.G (k p : Nat) (avs : List AV) (H : List HE) : Option (List Int × Int × Int) := none
set_option maxRecDepth 100000 in
theorem spec_l1Rd_below.eq (k : Nat) (a0_0 : List Int) (a0_1 : Int) (a1 : Int) : fromTop Tryd.prog spec_l1Rd_below.E k spec_l1Rd_below.a (spec_l1Rd_below.G k) 1000 (bodyOf Tryd.prog 89) [.box 0 0, .v (.int .i64 a1)] [.box [.con (.int .u8) a0_0, .v (.int .i64 a0_1)]] = spec_l1Rd_below.f a0_0 a0_1 a1 := by kernel_rfl
theorem spec_l1Rd_below.E_ok : EnvOk Tryd.prog spec_l1Rd_below.E := ⟨⟨spec_l1Rd_next.sound, callable_of (by kernel_rfl)⟩, trivial⟩
theorem spec_l1Rd_below.sound : Sound Tryd.prog 89 spec_l1Rd_below.s := by
  refine func_sound (f := spec_l1Rd_below.a) (G := spec_l1Rd_below.G) (fn := Tryd.f89) (body := bodyOf Tryd.prog 89) 1000 (by kernel_rfl) spec_l1Rd_below.E_ok Tryd.func89 (by kernel_rfl) (by kernel_rfl) (by kernel_rfl) (ptsOk_of (by kernel_rfl)) ?_ ?_ ?_ ?_
  · intro r H x h
    unfold spec_l1Rd_below.a at h
    simp only at h
    split at h
    · cases h; rfl
    · cases h
  · intro q avs H; rfl
  · intro k q pt avs H x _ h; cases h
  · intro k avs H o h
    try dsimp only at h
    split at h
    · cases h; exact spec_l1Rd_below.eq _ _ _ _
    · cases h

def spec_l1Rd_once.f (a0_0 : List Int) (a0_1 : Int) (a1 : Int) : Option (List Int × Int × Bool) := ((spec_l1Rd_below.f a0_0 a0_1 a1).bind fun t1 => (some (t1.1, t1.2.1, (decide (t1.2.2 = (wrap64 (a1 - 1)))))))
def spec_l1Rd_once.a : FnA (List Int × Int × Bool) := ⟨11, [.tmp 4], .bool, [.box [.con (.int .u8), .val]], [], fun x H => match x, H with
  | .bs false r, [.box [.con (.int .u8) h0_0, .v (.int .i64 h0_1)]] => some (h0_0, h0_1, r)
  | _, _ => none⟩
def spec_l1Rd_once.s : Spec := mkS [.box [.con (.int .u8), .val], .val] (fun k avs H => match avs, H with
  | [.box 0 0, .v (.int .i64 a1)], [.box [.con (.int .u8) a0_0, .v (.int .i64 a0_1)]] => some (spec_l1Rd_once.f a0_0 a0_1 a1)
  | _, _ => none) (fun r => (.bs false r.2.2, [.box [.con (.int .u8) r.1, .v (.int .i64 r.2.1)]]))
def spec_l1Rd_once.E : Env := [((89, []), spec_l1Rd_below.s)]
def spec_l1Rd_once.G (k p : Nat) (avs : List AV) (H : List HE) : Option (List Int × Int × Bool) := none
set_option maxRecDepth 100000 in
theorem spec_l1Rd_once.eq (k : Nat) (a0_0 : List Int) (a0_1 : Int) (a1 : Int) : fromTop Tryd.prog spec_l1Rd_once.E k spec_l1Rd_once.a (spec_l1Rd_once.G k) 1000 (bodyOf Tryd.prog 90) [.box 0 0, .v (.int .i64 a1)] [.box [.con (.int .u8) a0_0, .v (.int .i64 a0_1)]] = spec_l1Rd_once.f a0_0 a0_1 a1 := by kernel_rfl
theorem spec_l1Rd_once.E_ok : EnvOk Tryd.prog spec_l1Rd_once.E := ⟨⟨spec_l1Rd_below.sound, callable_of (by kernel_rfl)⟩, trivial⟩
theorem spec_l1Rd_once.sound : Sound Tryd.prog 90 spec_l1Rd_once.s := by
  refine func_sound (f := spec_l1Rd_once.a) (G := spec_l1Rd_once.G) (fn := Tryd.f90) (body := bodyOf Tryd.prog 90) 1000 (by kernel_rfl) spec_l1Rd_once.E_ok Tryd.func90 (by kernel_rfl) (by kernel_rfl) (by kernel_rfl) (ptsOk_of (by kernel_rfl)) ?_ ?_ ?_ ?_
  · intro r H x h
    unfold spec_l1Rd_once.a at h
    simp only at h
    split at h
    · cases h; rfl
    · cases h
  · intro q avs H; rfl
  · intro k q pt avs H x _ h; cases h
  · intro k avs H o h
    try dsimp only at h
    split at h
    · cases h; exact spec_l1Rd_once.eq _ _ _ _
    · cases h

def spec_l1Rd_kinds.p8 : Nat → List Int → Int → ByteArray → Int → Option (List Int × Int × ByteArray)
 | 0, _, _, _, _ => none
 | k + 1, h0_0, h0_1, x5, x6 => (if x6 > 0 then ((spec_l1Rd_below.f h0_0 h0_1 2).bind fun t2 => (if 0 ≤ t2.2.2 then (if t2.2.2 < 2 then (if x5.size + (rdOf ByteArray.empty ([(⟨#[105]⟩ : ByteArray), (⟨#[114]⟩ : ByteArray)] : List ByteArray) t2.2.2).size ≤ 9223372036854775807 then (spec_l1Rd_kinds.p8 k t2.1 t2.2.1 (x5 ++ (rdOf ByteArray.empty ([(⟨#[105]⟩ : ByteArray), (⟨#[114]⟩ : ByteArray)] : List ByteArray) t2.2.2)) (wrap64 (x6 - 1))) else none) else none) else none)) else (some (h0_0, h0_1, x5)))
def spec_l1Rd_kinds.f (k : Nat) (a0_0 : List Int) (a0_1 : Int) (a1 : Int) : Option (List Int × Int × ByteArray) := ((spec_l1Rd_below.f a0_0 a0_1 a1).bind fun t1 => (spec_l1Rd_kinds.p8 k t1.1 t1.2.1 (⟨#[]⟩ : ByteArray) (wrap64 (1 + t1.2.2))))
def spec_l1Rd_kinds.a : FnA (List Int × Int × ByteArray) := ⟨23, [.tmp 4], .val, [.box [.con (.int .u8), .val]], [⟨8, [0, 5, 6], [.box [], .val, .val], [.box [.con (.int .u8), .val]]⟩], fun x H => match x, H with
  | .v (.string r), [.box [.con (.int .u8) h0_0, .v (.int .i64 h0_1)]] => some (h0_0, h0_1, r)
  | _, _ => none⟩
def spec_l1Rd_kinds.s : Spec := mkS [.box [.con (.int .u8), .val], .val] (fun k avs H => match avs, H with
  | [.box 0 0, .v (.int .i64 a1)], [.box [.con (.int .u8) a0_0, .v (.int .i64 a0_1)]] => some (spec_l1Rd_kinds.f k a0_0 a0_1 a1)
  | _, _ => none) (fun r => (.v (.string r.2.2), [.box [.con (.int .u8) r.1, .v (.int .i64 r.2.1)]]))
def spec_l1Rd_kinds.E : Env := [((89, []), spec_l1Rd_below.s)]
def spec_l1Rd_kinds.G8 (k : Nat) (avs : List AV) (H : List HE) : Option (List Int × Int × ByteArray) := match avs, H with
  | [.box 0 0, .v (.string x5), .v (.int .i64 x6)], [.box [.con (.int .u8) h0_0, .v (.int .i64 h0_1)]] => spec_l1Rd_kinds.p8 k h0_0 h0_1 x5 x6
  | _, _ => none
def spec_l1Rd_kinds.G (k p : Nat) (avs : List AV) (H : List HE) : Option (List Int × Int × ByteArray) := (pick1 8 (spec_l1Rd_kinds.G8 k avs H) none p)
set_option maxRecDepth 100000 in
theorem spec_l1Rd_kinds.eq (k : Nat) (a0_0 : List Int) (a0_1 : Int) (a1 : Int) : fromTop Tryd.prog spec_l1Rd_kinds.E k spec_l1Rd_kinds.a (spec_l1Rd_kinds.G k) 1000 (bodyOf Tryd.prog 101) [.box 0 0, .v (.int .i64 a1)] [.box [.con (.int .u8) a0_0, .v (.int .i64 a0_1)]] = spec_l1Rd_kinds.f k a0_0 a0_1 a1 := by kernel_rfl
set_option maxRecDepth 100000 in
theorem spec_l1Rd_kinds.eq8 (k : Nat) (h0_0 : List Int) (h0_1 : Int) (x5 : ByteArray) (x6 : Int) : fromPt Tryd.prog spec_l1Rd_kinds.E k spec_l1Rd_kinds.a (spec_l1Rd_kinds.G k) 1000 (bodyOf Tryd.prog 101) 8 [.box 0 0, .v (.string x5), .v (.int .i64 x6)] [.box [.con (.int .u8) h0_0, .v (.int .i64 h0_1)]] = spec_l1Rd_kinds.p8 (k + 1) h0_0 h0_1 x5 x6 := by kernel_rfl
theorem spec_l1Rd_kinds.G8_0 {avs : List AV} {H : List HE} : spec_l1Rd_kinds.G8 0 avs H = none := by unfold spec_l1Rd_kinds.G8; split <;> rfl
theorem spec_l1Rd_kinds.G8_s (k : Nat) {avs : List AV} {H : List HE} {x : List Int × Int × ByteArray} (h : spec_l1Rd_kinds.G8 (k + 1) avs H = some x) : fromPt Tryd.prog spec_l1Rd_kinds.E k spec_l1Rd_kinds.a (spec_l1Rd_kinds.G k) 1000 (bodyOf Tryd.prog 101) 8 avs H = some x := by
  unfold spec_l1Rd_kinds.G8 at h
  split at h
  · rw [← h]; exact spec_l1Rd_kinds.eq8 _ _ _ _ _
  · cases h
theorem spec_l1Rd_kinds.E_ok : EnvOk Tryd.prog spec_l1Rd_kinds.E := ⟨⟨spec_l1Rd_below.sound, callable_of (by kernel_rfl)⟩, trivial⟩
theorem spec_l1Rd_kinds.sound : Sound Tryd.prog 101 spec_l1Rd_kinds.s := by
  refine func_sound (f := spec_l1Rd_kinds.a) (G := spec_l1Rd_kinds.G) (fn := Tryd.f101) (body := bodyOf Tryd.prog 101) 1000 (by kernel_rfl) spec_l1Rd_kinds.E_ok Tryd.func101 (by kernel_rfl) (by kernel_rfl) (by kernel_rfl) (ptsOk_of (by kernel_rfl)) ?_ ?_ ?_ ?_
  · intro r H x h
    unfold spec_l1Rd_kinds.a at h
    simp only at h
    split at h
    · cases h; rfl
    · cases h
  · exact fun q avs H => pick1_none spec_l1Rd_kinds.G8_0 (rfl)
  · intro k q pt avs H x _ h
    rcases pick1_some h with ⟨rfl, h⟩ | h
    · exact spec_l1Rd_kinds.G8_s _ h
    cases h
  · intro k avs H o h
    try dsimp only at h
    split at h
    · cases h; exact spec_l1Rd_kinds.eq _ _ _ _
    · cases h

def spec_l1Rd_types.p8 : Nat → List Int → Int → List ByteArray → Int → Option (List Int × Int × List ByteArray)
 | 0, _, _, _, _ => none
 | k + 1, h0_0, h0_1, x3, x4 => (if x4 > 0 then ((spec_l1Rd_once.f h0_0 h0_1 4).bind fun t3 => (if t3.2.2 = true then ((spec_l1Rd_kinds.f k t3.1 t3.2.1 23).bind fun t4 => (if x3.length + 1 ≤ 8796093022208 then (spec_l1Rd_types.p8 k t4.1 t4.2.1 (x3 ++ ([t4.2.2] : List ByteArray)) (wrap64 (x4 - 1))) else none)) else ((spec_l1Rd_kinds.f k t3.1 t3.2.1 5).bind fun t5 => (if x3.length + 1 ≤ 8796093022208 then (spec_l1Rd_types.p8 k t5.1 t5.2.1 (x3 ++ ([t5.2.2] : List ByteArray)) (wrap64 (x4 - 1))) else none)))) else (some (h0_0, h0_1, x3)))
def spec_l1Rd_types.f (k : Nat) (a0_0 : List Int) (a0_1 : Int) : Option (List Int × Int × List ByteArray) := ((spec_l1Rd_below.f a0_0 a0_1 4).bind fun t1 => (if 0 ≤ t1.2.2 then (if t1.2.2 < 4 then ((spec_l1Rd_below.f t1.1 t1.2.1 3).bind fun t2 => (spec_l1Rd_types.p8 k t2.1 t2.2.1 ([(rdOf ByteArray.empty ([(⟨#[105, 114]⟩ : ByteArray), (⟨#[114, 114, 105]⟩ : ByteArray), (⟨#[114, 105]⟩ : ByteArray), (⟨#[105, 114, 114]⟩ : ByteArray)] : List ByteArray) t1.2.2)] : List ByteArray) t2.2.2)) else none) else none))
def spec_l1Rd_types.a : FnA (List Int × Int × List ByteArray) := ⟨27, [.tmp 2], .row 9 .str, [.box [.con (.int .u8), .val]], [⟨8, [0, 3, 4], [.box [], .row 9 .str, .val], [.box [.con (.int .u8), .val]]⟩], fun x H => match x, H with
  | .own 1, [.box [.con (.int .u8) h0_0, .v (.int .i64 h0_1)], .row 9 .str r] => some (h0_0, h0_1, r)
  | _, _ => none⟩
def spec_l1Rd_types.s : Spec := mkS [.box [.con (.int .u8), .val]] (fun k avs H => match avs, H with
  | [.box 0 0], [.box [.con (.int .u8) a0_0, .v (.int .i64 a0_1)]] => some (spec_l1Rd_types.f k a0_0 a0_1)
  | _, _ => none) (fun r => (.own 1, [.box [.con (.int .u8) r.1, .v (.int .i64 r.2.1)], .row 9 .str r.2.2]))
def spec_l1Rd_types.E : Env := [((89, []), spec_l1Rd_below.s), ((90, []), spec_l1Rd_once.s), ((101, []), spec_l1Rd_kinds.s)]
def spec_l1Rd_types.G8 (k : Nat) (avs : List AV) (H : List HE) : Option (List Int × Int × List ByteArray) := match avs, H with
  | [.box 0 0, .own 1, .v (.int .i64 x4)], [.box [.con (.int .u8) h0_0, .v (.int .i64 h0_1)], .row 9 .str x3] => spec_l1Rd_types.p8 k h0_0 h0_1 x3 x4
  | _, _ => none
def spec_l1Rd_types.G (k p : Nat) (avs : List AV) (H : List HE) : Option (List Int × Int × List ByteArray) := (pick1 8 (spec_l1Rd_types.G8 k avs H) none p)
set_option maxRecDepth 100000 in
theorem spec_l1Rd_types.eq (k : Nat) (a0_0 : List Int) (a0_1 : Int) : fromTop Tryd.prog spec_l1Rd_types.E k spec_l1Rd_types.a (spec_l1Rd_types.G k) 1000 (bodyOf Tryd.prog 81) [.box 0 0] [.box [.con (.int .u8) a0_0, .v (.int .i64 a0_1)]] = spec_l1Rd_types.f k a0_0 a0_1 := by kernel_rfl
set_option maxRecDepth 100000 in
theorem spec_l1Rd_types.eq8 (k : Nat) (h0_0 : List Int) (h0_1 : Int) (x3 : List ByteArray) (x4 : Int) : fromPt Tryd.prog spec_l1Rd_types.E k spec_l1Rd_types.a (spec_l1Rd_types.G k) 1000 (bodyOf Tryd.prog 81) 8 [.box 0 0, .own 1, .v (.int .i64 x4)] [.box [.con (.int .u8) h0_0, .v (.int .i64 h0_1)], .row 9 .str x3] = spec_l1Rd_types.p8 (k + 1) h0_0 h0_1 x3 x4 := by kernel_rfl
theorem spec_l1Rd_types.G8_0 {avs : List AV} {H : List HE} : spec_l1Rd_types.G8 0 avs H = none := by unfold spec_l1Rd_types.G8; split <;> rfl
theorem spec_l1Rd_types.G8_s (k : Nat) {avs : List AV} {H : List HE} {x : List Int × Int × List ByteArray} (h : spec_l1Rd_types.G8 (k + 1) avs H = some x) : fromPt Tryd.prog spec_l1Rd_types.E k spec_l1Rd_types.a (spec_l1Rd_types.G k) 1000 (bodyOf Tryd.prog 81) 8 avs H = some x := by
  unfold spec_l1Rd_types.G8 at h
  split at h
  · rw [← h]; exact spec_l1Rd_types.eq8 _ _ _ _ _
  · cases h
theorem spec_l1Rd_types.E_ok : EnvOk Tryd.prog spec_l1Rd_types.E := ⟨⟨spec_l1Rd_below.sound, callable_of (by kernel_rfl)⟩, ⟨spec_l1Rd_once.sound, callable_of (by kernel_rfl)⟩, ⟨spec_l1Rd_kinds.sound, callable_of (by kernel_rfl)⟩, trivial⟩
theorem spec_l1Rd_types.sound : Sound Tryd.prog 81 spec_l1Rd_types.s := by
  refine func_sound (f := spec_l1Rd_types.a) (G := spec_l1Rd_types.G) (fn := Tryd.f81) (body := bodyOf Tryd.prog 81) 1000 (by kernel_rfl) spec_l1Rd_types.E_ok Tryd.func81 (by kernel_rfl) (by kernel_rfl) (by kernel_rfl) (ptsOk_of (by kernel_rfl)) ?_ ?_ ?_ ?_
  · intro r H x h
    unfold spec_l1Rd_types.a at h
    simp only at h
    split at h
    · cases h; rfl
    · cases h
  · exact fun q avs H => pick1_none spec_l1Rd_types.G8_0 (rfl)
  · intro k q pt avs H x _ h
    rcases pick1_some h with ⟨rfl, h⟩ | h
    · exact spec_l1Rd_types.G8_s _ h
    cases h
  · intro k avs H o h
    try dsimp only at h
    split at h
    · cases h; exact spec_l1Rd_types.eq _ _ _
    · cases h

def spec_l1Rd_size.f (a0_0 : List Int) (a0_1 : Int) (a1 : Int) (a2 : Int) : Option (List Int × Int × Int) := (if a1 = 0 then none else (if (wrap64 (1 + (wrap64 (Int.tdiv (a0_0.length : Int) a1)))) > a2 then ((spec_l1Rd_below.f a0_0 a0_1 a2).bind fun t1 => (some (t1.1, t1.2.1, (wrap64 (1 + t1.2.2))))) else ((spec_l1Rd_below.f a0_0 a0_1 (wrap64 (1 + (wrap64 (Int.tdiv (a0_0.length : Int) a1))))).bind fun t2 => (some (t2.1, t2.2.1, (wrap64 (1 + t2.2.2)))))))
def spec_l1Rd_size.a : FnA (List Int × Int × Int) := ⟨24, [.tmp 6], .val, [.box [.con (.int .u8), .val]], [], fun x H => match x, H with
  | .v (.int .i64 r), [.box [.con (.int .u8) h0_0, .v (.int .i64 h0_1)]] => some (h0_0, h0_1, r)
  | _, _ => none⟩
def spec_l1Rd_size.s : Spec := mkS [.box [.con (.int .u8), .val], .val, .val] (fun k avs H => match avs, H with
  | [.box 0 0, .v (.int .i64 a1), .v (.int .i64 a2)], [.box [.con (.int .u8) a0_0, .v (.int .i64 a0_1)]] => some (spec_l1Rd_size.f a0_0 a0_1 a1 a2)
  | _, _ => none) (fun r => (.v (.int .i64 r.2.2), [.box [.con (.int .u8) r.1, .v (.int .i64 r.2.1)]]))
def spec_l1Rd_size.E : Env := [((89, []), spec_l1Rd_below.s)]
def spec_l1Rd_size.G (k p : Nat) (avs : List AV) (H : List HE) : Option (List Int × Int × Int) := none
set_option maxRecDepth 100000 in
theorem spec_l1Rd_size.eq (k : Nat) (a0_0 : List Int) (a0_1 : Int) (a1 : Int) (a2 : Int) : fromTop Tryd.prog spec_l1Rd_size.E k spec_l1Rd_size.a (spec_l1Rd_size.G k) 1000 (bodyOf Tryd.prog 102) [.box 0 0, .v (.int .i64 a1), .v (.int .i64 a2)] [.box [.con (.int .u8) a0_0, .v (.int .i64 a0_1)]] = spec_l1Rd_size.f a0_0 a0_1 a1 a2 := by kernel_rfl
theorem spec_l1Rd_size.E_ok : EnvOk Tryd.prog spec_l1Rd_size.E := ⟨⟨spec_l1Rd_below.sound, callable_of (by kernel_rfl)⟩, trivial⟩
theorem spec_l1Rd_size.sound : Sound Tryd.prog 102 spec_l1Rd_size.s := by
  refine func_sound (f := spec_l1Rd_size.a) (G := spec_l1Rd_size.G) (fn := Tryd.f102) (body := bodyOf Tryd.prog 102) 1000 (by kernel_rfl) spec_l1Rd_size.E_ok Tryd.func102 (by kernel_rfl) (by kernel_rfl) (by kernel_rfl) (ptsOk_of (by kernel_rfl)) ?_ ?_ ?_ ?_
  · intro r H x h
    unfold spec_l1Rd_size.a at h
    simp only at h
    split at h
    · cases h; rfl
    · cases h
  · intro q avs H; rfl
  · intro k q pt avs H x _ h; cases h
  · intro k avs H o h
    try dsimp only at h
    split at h
    · cases h; exact spec_l1Rd_size.eq _ _ _ _ _
    · cases h

def spec_l1In.f (a0 : Int) (a1 : Int) (a2 : Int) : Option (Bool) := (if a0 ≥ a1 then (some (decide (a0 ≤ a2))) else (some false))
def spec_l1In.a : FnA (Bool) := ⟨15, [.tmp 6], .bool, [], [], fun x H => match x, H with
  | .bs false r, [] => some r
  | _, _ => none⟩
def spec_l1In.s : Spec := mkS [.val, .val, .val] (fun k avs H => match avs, H with
  | [.v (.int .i64 a0), .v (.int .i64 a1), .v (.int .i64 a2)], [] => some (spec_l1In.f a0 a1 a2)
  | _, _ => none) (fun r => (.bs false r, []))
def spec_l1In.E : Env := []
def spec_l1In.G (k p : Nat) (avs : List AV) (H : List HE) : Option (Bool) := none
set_option maxRecDepth 100000 in
theorem spec_l1In.eq (k : Nat) (a0 : Int) (a1 : Int) (a2 : Int) : fromTop Tryd.prog spec_l1In.E k spec_l1In.a (spec_l1In.G k) 1000 (bodyOf Tryd.prog 67) [.v (.int .i64 a0), .v (.int .i64 a1), .v (.int .i64 a2)] [] = spec_l1In.f a0 a1 a2 := by kernel_rfl
theorem spec_l1In.E_ok : EnvOk Tryd.prog spec_l1In.E := trivial
theorem spec_l1In.sound : Sound Tryd.prog 67 spec_l1In.s := by
  refine func_sound (f := spec_l1In.a) (G := spec_l1In.G) (fn := Tryd.f67) (body := bodyOf Tryd.prog 67) 1000 (by kernel_rfl) spec_l1In.E_ok Tryd.func67 (by kernel_rfl) (by kernel_rfl) (by kernel_rfl) (ptsOk_of (by kernel_rfl)) ?_ ?_ ?_ ?_
  · intro r H x h
    unfold spec_l1In.a at h
    simp only at h
    split at h
    · cases h; rfl
    · cases h
  · intro q avs H; rfl
  · intro k q pt avs H x _ h; cases h
  · intro k avs H o h
    try dsimp only at h
    split at h
    · cases h; exact spec_l1In.eq _ _ _ _
    · cases h

def spec_l3Type.p6 : Nat → ByteArray → Int → Option (Bool)
 | 0, _, _ => none
 | k + 1, x0, x3 => (if x3 < (x0.size : Int) then (if 0 ≤ x3 then (if x3 < (x0.size : Int) then (if (byteAt x0 x3) = 105 then (spec_l3Type.p6 k x0 (wrap64 (x3 + 1))) else (if 0 ≤ x3 then (if x3 < (x0.size : Int) then (if (byteAt x0 x3) = 114 then (spec_l3Type.p6 k x0 (wrap64 (x3 + 1))) else (some false)) else none) else none)) else none) else none) else ((spec_l1In.f (x0.size : Int) 1 23).bind fun t1 => (some t1)))
def spec_l3Type.f (k : Nat) (a0 : ByteArray) : Option (Bool) := (spec_l3Type.p6 k a0 0)
def spec_l3Type.a : FnA (Bool) := ⟨23, [.tmp 2], .bool, [], [⟨6, [0, 3], [.val, .val], []⟩], fun x H => match x, H with
  | .bs false r, [] => some r
  | _, _ => none⟩
def spec_l3Type.s : Spec := mkS [.val] (fun k avs H => match avs, H with
  | [.v (.string a0)], [] => some (spec_l3Type.f k a0)
  | _, _ => none) (fun r => (.bs false r, []))
def spec_l3Type.E : Env := [((67, []), spec_l1In.s)]
def spec_l3Type.G6 (k : Nat) (avs : List AV) (H : List HE) : Option (Bool) := match avs, H with
  | [.v (.string x0), .v (.int .i64 x3)], [] => spec_l3Type.p6 k x0 x3
  | _, _ => none
def spec_l3Type.G (k p : Nat) (avs : List AV) (H : List HE) : Option (Bool) := (pick1 6 (spec_l3Type.G6 k avs H) none p)
set_option maxRecDepth 100000 in
theorem spec_l3Type.eq (k : Nat) (a0 : ByteArray) : fromTop Tryd.prog spec_l3Type.E k spec_l3Type.a (spec_l3Type.G k) 1000 (bodyOf Tryd.prog 108) [.v (.string a0)] [] = spec_l3Type.f k a0 := by kernel_rfl
set_option maxRecDepth 100000 in
theorem spec_l3Type.eq6 (k : Nat) (x0 : ByteArray) (x3 : Int) : fromPt Tryd.prog spec_l3Type.E k spec_l3Type.a (spec_l3Type.G k) 1000 (bodyOf Tryd.prog 108) 6 [.v (.string x0), .v (.int .i64 x3)] [] = spec_l3Type.p6 (k + 1) x0 x3 := by kernel_rfl
theorem spec_l3Type.G6_0 {avs : List AV} {H : List HE} : spec_l3Type.G6 0 avs H = none := by unfold spec_l3Type.G6; split <;> rfl
theorem spec_l3Type.G6_s (k : Nat) {avs : List AV} {H : List HE} {x : Bool} (h : spec_l3Type.G6 (k + 1) avs H = some x) : fromPt Tryd.prog spec_l3Type.E k spec_l3Type.a (spec_l3Type.G k) 1000 (bodyOf Tryd.prog 108) 6 avs H = some x := by
  unfold spec_l3Type.G6 at h
  split at h
  · rw [← h]; exact spec_l3Type.eq6 _ _ _
  · cases h
theorem spec_l3Type.E_ok : EnvOk Tryd.prog spec_l3Type.E := ⟨⟨spec_l1In.sound, callable_of (by kernel_rfl)⟩, trivial⟩
theorem spec_l3Type.sound : Sound Tryd.prog 108 spec_l3Type.s := by
  refine func_sound (f := spec_l3Type.a) (G := spec_l3Type.G) (fn := Tryd.f108) (body := bodyOf Tryd.prog 108) 1000 (by kernel_rfl) spec_l3Type.E_ok Tryd.func108 (by kernel_rfl) (by kernel_rfl) (by kernel_rfl) (ptsOk_of (by kernel_rfl)) ?_ ?_ ?_ ?_
  · intro r H x h
    unfold spec_l3Type.a at h
    simp only at h
    split at h
    · cases h; rfl
    · cases h
  · exact fun q avs H => pick1_none spec_l3Type.G6_0 (rfl)
  · intro k q pt avs H x _ h
    rcases pick1_some h with ⟨rfl, h⟩ | h
    · exact spec_l3Type.G6_s _ h
    cases h
  · intro k avs H o h
    try dsimp only at h
    split at h
    · cases h; exact spec_l3Type.eq _ _
    · cases h

def spec_TypesOk.p14 : Nat → List ByteArray → Int → Option (Bool)
 | 0, _, _ => none
 | k + 1, x0, x3 => (if x3 < (x0.length : Int) then (if 0 ≤ x3 then (if x3 < (x0.length : Int) then ((spec_l3Type.f k (rdOf ByteArray.empty x0 x3)).bind fun t2 => (if t2 = true then (spec_TypesOk.p14 k x0 (wrap64 (x3 + 1))) else (some false))) else none) else none) else (some true))
def spec_TypesOk.f (k : Nat) (a0 : List ByteArray) : Option (Bool) := ((spec_l1In.f (a0.length : Int) 1 12).bind fun t1 => (if t1 = true then (spec_TypesOk.p14 k a0 0) else (some false)))
def spec_TypesOk.a : FnA (Bool) := ⟨20, [.tmp 2], .bool, [], [⟨14, [0, 3], [.con .str, .val], []⟩], fun x H => match x, H with
  | .bs false r, [] => some r
  | _, _ => none⟩
def spec_TypesOk.s : Spec := mkS [.con .str] (fun k avs H => match avs, H with
  | [.con .str a0], [] => some (spec_TypesOk.f k a0)
  | _, _ => none) (fun r => (.bs false r, []))
def spec_TypesOk.E : Env := [((67, []), spec_l1In.s), ((108, []), spec_l3Type.s)]
def spec_TypesOk.G14 (k : Nat) (avs : List AV) (H : List HE) : Option (Bool) := match avs, H with
  | [.con .str x0, .v (.int .i64 x3)], [] => spec_TypesOk.p14 k x0 x3
  | _, _ => none
def spec_TypesOk.G (k p : Nat) (avs : List AV) (H : List HE) : Option (Bool) := (pick1 14 (spec_TypesOk.G14 k avs H) none p)
set_option maxRecDepth 100000 in
theorem spec_TypesOk.eq (k : Nat) (a0 : List ByteArray) : fromTop Tryd.prog spec_TypesOk.E k spec_TypesOk.a (spec_TypesOk.G k) 1000 (bodyOf Tryd.prog 91) [.con .str a0] [] = spec_TypesOk.f k a0 := by kernel_rfl
set_option maxRecDepth 100000 in
theorem spec_TypesOk.eq14 (k : Nat) (x0 : List ByteArray) (x3 : Int) : fromPt Tryd.prog spec_TypesOk.E k spec_TypesOk.a (spec_TypesOk.G k) 1000 (bodyOf Tryd.prog 91) 14 [.con .str x0, .v (.int .i64 x3)] [] = spec_TypesOk.p14 (k + 1) x0 x3 := by kernel_rfl
theorem spec_TypesOk.G14_0 {avs : List AV} {H : List HE} : spec_TypesOk.G14 0 avs H = none := by unfold spec_TypesOk.G14; split <;> rfl
theorem spec_TypesOk.G14_s (k : Nat) {avs : List AV} {H : List HE} {x : Bool} (h : spec_TypesOk.G14 (k + 1) avs H = some x) : fromPt Tryd.prog spec_TypesOk.E k spec_TypesOk.a (spec_TypesOk.G k) 1000 (bodyOf Tryd.prog 91) 14 avs H = some x := by
  unfold spec_TypesOk.G14 at h
  split at h
  · rw [← h]; exact spec_TypesOk.eq14 _ _ _
  · cases h
theorem spec_TypesOk.E_ok : EnvOk Tryd.prog spec_TypesOk.E := ⟨⟨spec_l1In.sound, callable_of (by kernel_rfl)⟩, ⟨spec_l3Type.sound, callable_of (by kernel_rfl)⟩, trivial⟩
theorem spec_TypesOk.sound : Sound Tryd.prog 91 spec_TypesOk.s := by
  refine func_sound (f := spec_TypesOk.a) (G := spec_TypesOk.G) (fn := Tryd.f91) (body := bodyOf Tryd.prog 91) 1000 (by kernel_rfl) spec_TypesOk.E_ok Tryd.func91 (by kernel_rfl) (by kernel_rfl) (by kernel_rfl) (ptsOk_of (by kernel_rfl)) ?_ ?_ ?_ ?_
  · intro r H x h
    unfold spec_TypesOk.a at h
    simp only at h
    split at h
    · cases h; rfl
    · cases h
  · exact fun q avs H => pick1_none spec_TypesOk.G14_0 (rfl)
  · intro k q pt avs H x _ h
    rcases pick1_some h with ⟨rfl, h⟩ | h
    · exact spec_TypesOk.G14_s _ h
    cases h
  · intro k avs H o h
    try dsimp only at h
    split at h
    · cases h; exact spec_TypesOk.eq _ _
    · cases h

def spec_l8Parse.p16 : Nat → List ByteArray → Int → List Int → List Int → Int → Option (List Int × Bool)
 | 0, _, _, _, _, _ => none
 | k + 1, x0, x3_0, x3_1, x6, x7 => (if x7 < (x3_1.length : Int) then (if 0 ≤ x7 then (if x7 < (x3_1.length : Int) then (if 0 ≤ x7 then (if x7 < (x3_1.length : Int) then (if (rd x3_1 x7) < 0 then (some (([] : List Int), false)) else (if (wrap64 (Int.tdiv (rd x3_1 x7) 4)) ≥ (x0.length : Int) then (some (([] : List Int), false)) else (if 0 ≤ (wrap64 (Int.tdiv (rd x3_1 x7) 4)) then (if (wrap64 (Int.tdiv (rd x3_1 x7) 4)) < (x0.length : Int) then (if (wrap64 ((wrap64 (x7 + 1)) + ((rdOf ByteArray.empty x0 (wrap64 (Int.tdiv (rd x3_1 x7) 4))).size : Int))) > (x3_1.length : Int) then (some (([] : List Int), false)) else (if x6.length + 1 ≤ 17592186044416 then (if 0 ≤ (wrap64 (Int.tdiv (rd x3_1 x7) 4)) then (if (wrap64 (Int.tdiv (rd x3_1 x7) 4)) < (x0.length : Int) then (spec_l8Parse.p16 k x0 x3_0 x3_1 (x6 ++ ([x7] : List Int)) (wrap64 ((wrap64 (x7 + 1)) + ((rdOf ByteArray.empty x0 (wrap64 (Int.tdiv (rd x3_1 x7) 4))).size : Int)))) else none) else none) else none)) else none) else none))) else none) else none) else none) else none) else (some (x6, true)))
def spec_l8Parse.f (k : Nat) (a0 : List ByteArray) (a1_0 : Int) (a1_1 : List Int) : Option (List Int × Bool) := ((spec_TypesOk.f k a0).bind fun t1 => (if t1 = true then ((spec_l1In.f a1_0 2 400).bind fun t2 => (if t2 = true then (if (a1_1.length : Int) > a1_0 then (some (([] : List Int), false)) else (spec_l8Parse.p16 k a0 a1_0 a1_1 ([] : List Int) 0)) else (some (([] : List Int), false)))) else (some (([] : List Int), false))))
def spec_l8Parse.a : FnA (List Int × Bool) := ⟨78, [.tmp 4, .tmp 5], .tup [.row 2 (.int .i64), .bool], [], [⟨16, [0, 3, 6, 7], [.con .str, .box [.val, .con (.int .i64)], .row 2 (.int .i64), .val], []⟩], fun x H => match x, H with
  | .tup [.own 0, .bs false r_1], [.row 2 (.int .i64) r_0] => some (r_0, r_1)
  | _, _ => none⟩
def spec_l8Parse.s : Spec := mkS [.con .str, .agg [.val, .con (.int .i64)]] (fun k avs H => match avs, H with
  | [.con .str a0, .agg [.v (.int .i64 a1_0), .con (.int .i64) a1_1]], [] => some (spec_l8Parse.f k a0 a1_0 a1_1)
  | _, _ => none) (fun r => (.tup [.own 0, .bs false r.2], [.row 2 (.int .i64) r.1]))
def spec_l8Parse.E : Env := [((91, []), spec_TypesOk.s), ((67, []), spec_l1In.s)]
def spec_l8Parse.G16 (k : Nat) (avs : List AV) (H : List HE) : Option (List Int × Bool) := match avs, H with
  | [.con .str x0, .box 0 0, .own 1, .v (.int .i64 x7)], [.box [.v (.int .i64 x3_0), .con (.int .i64) x3_1], .row 2 (.int .i64) x6] => spec_l8Parse.p16 k x0 x3_0 x3_1 x6 x7
  | _, _ => none
def spec_l8Parse.G (k p : Nat) (avs : List AV) (H : List HE) : Option (List Int × Bool) := (pick1 16 (spec_l8Parse.G16 k avs H) none p)
set_option maxRecDepth 100000 in
theorem spec_l8Parse.eq (k : Nat) (a0 : List ByteArray) (a1_0 : Int) (a1_1 : List Int) : fromTop Tryd.prog spec_l8Parse.E k spec_l8Parse.a (spec_l8Parse.G k) 1000 (bodyOf Tryd.prog 58) [.con .str a0, .agg [.v (.int .i64 a1_0), .con (.int .i64) a1_1]] [] = spec_l8Parse.f k a0 a1_0 a1_1 := by kernel_rfl
set_option maxRecDepth 100000 in
theorem spec_l8Parse.eq16 (k : Nat) (x0 : List ByteArray) (x3_0 : Int) (x3_1 : List Int) (x6 : List Int) (x7 : Int) : fromPt Tryd.prog spec_l8Parse.E k spec_l8Parse.a (spec_l8Parse.G k) 1000 (bodyOf Tryd.prog 58) 16 [.con .str x0, .box 0 0, .own 1, .v (.int .i64 x7)] [.box [.v (.int .i64 x3_0), .con (.int .i64) x3_1], .row 2 (.int .i64) x6] = spec_l8Parse.p16 (k + 1) x0 x3_0 x3_1 x6 x7 := by kernel_rfl
theorem spec_l8Parse.G16_0 {avs : List AV} {H : List HE} : spec_l8Parse.G16 0 avs H = none := by unfold spec_l8Parse.G16; split <;> rfl
theorem spec_l8Parse.G16_s (k : Nat) {avs : List AV} {H : List HE} {x : List Int × Bool} (h : spec_l8Parse.G16 (k + 1) avs H = some x) : fromPt Tryd.prog spec_l8Parse.E k spec_l8Parse.a (spec_l8Parse.G k) 1000 (bodyOf Tryd.prog 58) 16 avs H = some x := by
  unfold spec_l8Parse.G16 at h
  split at h
  · rw [← h]; exact spec_l8Parse.eq16 _ _ _ _ _ _
  · cases h
theorem spec_l8Parse.E_ok : EnvOk Tryd.prog spec_l8Parse.E := ⟨⟨spec_TypesOk.sound, callable_of (by kernel_rfl)⟩, ⟨spec_l1In.sound, callable_of (by kernel_rfl)⟩, trivial⟩
theorem spec_l8Parse.sound : Sound Tryd.prog 58 spec_l8Parse.s := by
  refine func_sound (f := spec_l8Parse.a) (G := spec_l8Parse.G) (fn := Tryd.f58) (body := bodyOf Tryd.prog 58) 1000 (by kernel_rfl) spec_l8Parse.E_ok Tryd.func58 (by kernel_rfl) (by kernel_rfl) (by kernel_rfl) (ptsOk_of (by kernel_rfl)) ?_ ?_ ?_ ?_
  · intro r H x h
    unfold spec_l8Parse.a at h
    simp only at h
    split at h
    · cases h; rfl
    · cases h
  · exact fun q avs H => pick1_none spec_l8Parse.G16_0 (rfl)
  · intro k q pt avs H x _ h
    rcases pick1_some h with ⟨rfl, h⟩ | h
    · exact spec_l8Parse.G16_s _ h
    cases h
  · intro k avs H o h
    try dsimp only at h
    split at h
    · cases h; exact spec_l8Parse.eq _ _ _ _
    · cases h

def spec_RefKind.f (a0 : Int) : Option (Int) := (if a0 = 0 then (some 0) else ((spec_l1In.f a0 2 254).bind fun t1 => (if t1 = true then (if (Int.tmod a0 2) = 0 then (some 1) else ((spec_l1In.f a0 1 799).bind fun t2 => (if t2 = true then (if (Int.tmod a0 2) = 1 then (some 2) else (some (-1))) else (some (-1))))) else ((spec_l1In.f a0 1 799).bind fun t3 => (if t3 = true then (if (Int.tmod a0 2) = 1 then (some 2) else (some (-1))) else (some (-1)))))))
def spec_RefKind.a : FnA (Int) := ⟨22, [.tmp 2], .val, [], [], fun x H => match x, H with
  | .v (.int .i64 r), [] => some r
  | _, _ => none⟩
def spec_RefKind.s : Spec := mkS [.val] (fun k avs H => match avs, H with
  | [.v (.int .i64 a0)], [] => some (spec_RefKind.f a0)
  | _, _ => none) (fun r => (.v (.int .i64 r), []))
def spec_RefKind.E : Env := [((67, []), spec_l1In.s)]
def spec_RefKind.G (k p : Nat) (avs : List AV) (H : List HE) : Option (Int) := none
set_option maxRecDepth 100000 in
theorem spec_RefKind.eq (k : Nat) (a0 : Int) : fromTop Tryd.prog spec_RefKind.E k spec_RefKind.a (spec_RefKind.G k) 1000 (bodyOf Tryd.prog 62) [.v (.int .i64 a0)] [] = spec_RefKind.f a0 := by kernel_rfl
theorem spec_RefKind.E_ok : EnvOk Tryd.prog spec_RefKind.E := ⟨⟨spec_l1In.sound, callable_of (by kernel_rfl)⟩, trivial⟩
theorem spec_RefKind.sound : Sound Tryd.prog 62 spec_RefKind.s := by
  refine func_sound (f := spec_RefKind.a) (G := spec_RefKind.G) (fn := Tryd.f62) (body := bodyOf Tryd.prog 62) 1000 (by kernel_rfl) spec_RefKind.E_ok Tryd.func62 (by kernel_rfl) (by kernel_rfl) (by kernel_rfl) (ptsOk_of (by kernel_rfl)) ?_ ?_ ?_ ?_
  · intro r H x h
    unfold spec_RefKind.a at h
    simp only at h
    split at h
    · cases h; rfl
    · cases h
  · intro q avs H; rfl
  · intro k q pt avs H x _ h; cases h
  · intro k avs H o h
    try dsimp only at h
    split at h
    · cases h; exact spec_RefKind.eq _ _
    · cases h

def spec_l7Place.p6 : Nat → List Int → Int → Int → Option (Int)
 | 0, _, _, _ => none
 | k + 1, x0, x1, x5 => (if x5 < (x0.length : Int) then (if 0 ≤ x5 then (if x5 < (x0.length : Int) then (if (rd x0 x5) = x1 then (some x5) else (spec_l7Place.p6 k x0 x1 (wrap64 (x5 + 1)))) else none) else none) else (some (-1)))
def spec_l7Place.f (k : Nat) (a0 : List Int) (a1 : Int) : Option (Int) := (spec_l7Place.p6 k a0 a1 0)
def spec_l7Place.a : FnA (Int) := ⟨19, [.tmp 4], .val, [], [⟨6, [0, 1, 5], [.con (.int .i64), .val, .val], []⟩], fun x H => match x, H with
  | .v (.int .i64 r), [] => some r
  | _, _ => none⟩
def spec_l7Place.s : Spec := mkS [.con (.int .i64), .val] (fun k avs H => match avs, H with
  | [.con (.int .i64) a0, .v (.int .i64 a1)], [] => some (spec_l7Place.f k a0 a1)
  | _, _ => none) (fun r => (.v (.int .i64 r), []))
def spec_l7Place.E : Env := []
def spec_l7Place.G6 (k : Nat) (avs : List AV) (H : List HE) : Option (Int) := match avs, H with
  | [.con (.int .i64) x0, .v (.int .i64 x1), .v (.int .i64 x5)], [] => spec_l7Place.p6 k x0 x1 x5
  | _, _ => none
def spec_l7Place.G (k p : Nat) (avs : List AV) (H : List HE) : Option (Int) := (pick1 6 (spec_l7Place.G6 k avs H) none p)
set_option maxRecDepth 100000 in
theorem spec_l7Place.eq (k : Nat) (a0 : List Int) (a1 : Int) : fromTop Tryd.prog spec_l7Place.E k spec_l7Place.a (spec_l7Place.G k) 1000 (bodyOf Tryd.prog 63) [.con (.int .i64) a0, .v (.int .i64 a1)] [] = spec_l7Place.f k a0 a1 := by kernel_rfl
set_option maxRecDepth 100000 in
theorem spec_l7Place.eq6 (k : Nat) (x0 : List Int) (x1 : Int) (x5 : Int) : fromPt Tryd.prog spec_l7Place.E k spec_l7Place.a (spec_l7Place.G k) 1000 (bodyOf Tryd.prog 63) 6 [.con (.int .i64) x0, .v (.int .i64 x1), .v (.int .i64 x5)] [] = spec_l7Place.p6 (k + 1) x0 x1 x5 := by kernel_rfl
theorem spec_l7Place.G6_0 {avs : List AV} {H : List HE} : spec_l7Place.G6 0 avs H = none := by unfold spec_l7Place.G6; split <;> rfl
theorem spec_l7Place.G6_s (k : Nat) {avs : List AV} {H : List HE} {x : Int} (h : spec_l7Place.G6 (k + 1) avs H = some x) : fromPt Tryd.prog spec_l7Place.E k spec_l7Place.a (spec_l7Place.G k) 1000 (bodyOf Tryd.prog 63) 6 avs H = some x := by
  unfold spec_l7Place.G6 at h
  split at h
  · rw [← h]; exact spec_l7Place.eq6 _ _ _ _
  · cases h
theorem spec_l7Place.E_ok : EnvOk Tryd.prog spec_l7Place.E := trivial
theorem spec_l7Place.sound : Sound Tryd.prog 63 spec_l7Place.s := by
  refine func_sound (f := spec_l7Place.a) (G := spec_l7Place.G) (fn := Tryd.f63) (body := bodyOf Tryd.prog 63) 1000 (by kernel_rfl) spec_l7Place.E_ok Tryd.func63 (by kernel_rfl) (by kernel_rfl) (by kernel_rfl) (ptsOk_of (by kernel_rfl)) ?_ ?_ ?_ ?_
  · intro r H x h
    unfold spec_l7Place.a at h
    simp only at h
    split at h
    · cases h; rfl
    · cases h
  · exact fun q avs H => pick1_none spec_l7Place.G6_0 (rfl)
  · intro k q pt avs H x _ h
    rcases pick1_some h with ⟨rfl, h⟩ | h
    · exact spec_l7Place.G6_s _ h
    cases h
  · intro k avs H o h
    try dsimp only at h
    split at h
    · cases h; exact spec_l7Place.eq _ _ _
    · cases h

def spec_l8Ref.f (k : Nat) (a0 : List Int) (a1 : Int) : Option (Bool) := ((spec_RefKind.f a1).bind fun t1 => (if t1 = 0 then (some true) else (if t1 = 1 then (some true) else (if t1 = 2 then ((spec_l7Place.f k a0 (wrap64 (Int.tdiv a1 2))).bind fun t2 => (some (decide (t2 ≥ 0)))) else (some false)))))
def spec_l8Ref.a : FnA (Bool) := ⟨25, [.tmp 4], .bool, [], [], fun x H => match x, H with
  | .bs false r, [] => some r
  | _, _ => none⟩
def spec_l8Ref.s : Spec := mkS [.con (.int .i64), .val] (fun k avs H => match avs, H with
  | [.con (.int .i64) a0, .v (.int .i64 a1)], [] => some (spec_l8Ref.f k a0 a1)
  | _, _ => none) (fun r => (.bs false r, []))
def spec_l8Ref.E : Env := [((62, []), spec_RefKind.s), ((63, []), spec_l7Place.s)]
def spec_l8Ref.G (k p : Nat) (avs : List AV) (H : List HE) : Option (Bool) := none
set_option maxRecDepth 100000 in
theorem spec_l8Ref.eq (k : Nat) (a0 : List Int) (a1 : Int) : fromTop Tryd.prog spec_l8Ref.E k spec_l8Ref.a (spec_l8Ref.G k) 1000 (bodyOf Tryd.prog 59) [.con (.int .i64) a0, .v (.int .i64 a1)] [] = spec_l8Ref.f k a0 a1 := by kernel_rfl
theorem spec_l8Ref.E_ok : EnvOk Tryd.prog spec_l8Ref.E := ⟨⟨spec_RefKind.sound, callable_of (by kernel_rfl)⟩, ⟨spec_l7Place.sound, callable_of (by kernel_rfl)⟩, trivial⟩
theorem spec_l8Ref.sound : Sound Tryd.prog 59 spec_l8Ref.s := by
  refine func_sound (f := spec_l8Ref.a) (G := spec_l8Ref.G) (fn := Tryd.f59) (body := bodyOf Tryd.prog 59) 1000 (by kernel_rfl) spec_l8Ref.E_ok Tryd.func59 (by kernel_rfl) (by kernel_rfl) (by kernel_rfl) (ptsOk_of (by kernel_rfl)) ?_ ?_ ?_ ?_
  · intro r H x h
    unfold spec_l8Ref.a at h
    simp only at h
    split at h
    · cases h; rfl
    · cases h
  · intro q avs H; rfl
  · intro k q pt avs H x _ h; cases h
  · intro k avs H o h
    try dsimp only at h
    split at h
    · cases h; exact spec_l8Ref.eq _ _ _
    · cases h

mutual
def spec_NurseryOk.p16 : Nat → List ByteArray → Int → List Int → List Int → Int → Option (Bool)
 | 0, _, _, _, _, _ => none
 | k + 1, x0, x3_0, x3_1, x5, x7 => (if x7 < (x5.length : Int) then (if 0 ≤ x7 then (if x7 < (x5.length : Int) then (if 0 ≤ (rd x5 x7) then (if (rd x5 x7) < (x3_1.length : Int) then (if 0 ≤ (wrap64 (Int.tdiv (rd x3_1 (rd x5 x7)) 4)) then (if (wrap64 (Int.tdiv (rd x3_1 (rd x5 x7)) 4)) < (x0.length : Int) then (spec_NurseryOk.p30 k x0 x3_0 x3_1 x5 x7 (rdOf ByteArray.empty x0 (wrap64 (Int.tdiv (rd x3_1 (rd x5 x7)) 4))) 0) else none) else none) else none) else none) else none) else none) else (some true))
def spec_NurseryOk.p30 : Nat → List ByteArray → Int → List Int → List Int → Int → ByteArray → Int → Option (Bool)
 | 0, _, _, _, _, _, _, _ => none
 | k + 1, x0, x3_0, x3_1, x5, x7, x8, x9 => (if x9 < (x8.size : Int) then (if 0 ≤ x9 then (if x9 < (x8.size : Int) then (if (byteAt x8 x9) = 114 then (if 0 ≤ x7 then (if x7 < (x5.length : Int) then (if 0 ≤ (wrap64 ((wrap64 ((rd x5 x7) + 1)) + x9)) then (if (wrap64 ((wrap64 ((rd x5 x7) + 1)) + x9)) < (x3_1.length : Int) then ((spec_l8Ref.f k x5 (rd x3_1 (wrap64 ((wrap64 ((rd x5 x7) + 1)) + x9)))).bind fun t2 => (if t2 = true then (spec_NurseryOk.p30 k x0 x3_0 x3_1 x5 x7 x8 (wrap64 (x9 + 1))) else (some false))) else none) else none) else none) else none) else (spec_NurseryOk.p30 k x0 x3_0 x3_1 x5 x7 x8 (wrap64 (x9 + 1)))) else none) else none) else (spec_NurseryOk.p16 k x0 x3_0 x3_1 x5 (wrap64 (x7 + 1))))
end
def spec_NurseryOk.f (k : Nat) (a0 : List ByteArray) (a1_0 : Int) (a1_1 : List Int) : Option (Bool) := ((spec_l8Parse.f k a0 a1_0 a1_1).bind fun t1 => (if t1.2 = true then (spec_NurseryOk.p16 k a0 a1_0 a1_1 t1.1 0) else (some false)))
def spec_NurseryOk.a : FnA (Bool) := ⟨62, [.tmp 4], .bool, [], [⟨16, [0, 3, 5, 7], [.con .str, .box [.val, .con (.int .i64)], .row 2 (.int .i64), .val], []⟩, ⟨30, [0, 3, 5, 7, 8, 9], [.con .str, .box [.val, .con (.int .i64)], .row 2 (.int .i64), .val, .val, .val], []⟩], fun x H => match x, H with
  | .bs false r, [] => some r
  | _, _ => none⟩
def spec_NurseryOk.s : Spec := mkS [.con .str, .agg [.val, .con (.int .i64)]] (fun k avs H => match avs, H with
  | [.con .str a0, .agg [.v (.int .i64 a1_0), .con (.int .i64) a1_1]], [] => some (spec_NurseryOk.f k a0 a1_0 a1_1)
  | _, _ => none) (fun r => (.bs false r, []))
def spec_NurseryOk.E : Env := [((58, []), spec_l8Parse.s), ((59, []), spec_l8Ref.s)]
def spec_NurseryOk.G16 (k : Nat) (avs : List AV) (H : List HE) : Option (Bool) := match avs, H with
  | [.con .str x0, .box 0 0, .own 1, .v (.int .i64 x7)], [.box [.v (.int .i64 x3_0), .con (.int .i64) x3_1], .row 2 (.int .i64) x5] => spec_NurseryOk.p16 k x0 x3_0 x3_1 x5 x7
  | _, _ => none
def spec_NurseryOk.G30 (k : Nat) (avs : List AV) (H : List HE) : Option (Bool) := match avs, H with
  | [.con .str x0, .box 0 0, .own 1, .v (.int .i64 x7), .v (.string x8), .v (.int .i64 x9)], [.box [.v (.int .i64 x3_0), .con (.int .i64) x3_1], .row 2 (.int .i64) x5] => spec_NurseryOk.p30 k x0 x3_0 x3_1 x5 x7 x8 x9
  | _, _ => none
def spec_NurseryOk.G (k p : Nat) (avs : List AV) (H : List HE) : Option (Bool) := (pick1 16 (spec_NurseryOk.G16 k avs H) (pick1 30 (spec_NurseryOk.G30 k avs H) none p) p)
set_option maxRecDepth 100000 in
theorem spec_NurseryOk.eq (k : Nat) (a0 : List ByteArray) (a1_0 : Int) (a1_1 : List Int) : fromTop Tryd.prog spec_NurseryOk.E k spec_NurseryOk.a (spec_NurseryOk.G k) 1000 (bodyOf Tryd.prog 18) [.con .str a0, .agg [.v (.int .i64 a1_0), .con (.int .i64) a1_1]] [] = spec_NurseryOk.f k a0 a1_0 a1_1 := by kernel_rfl
set_option maxRecDepth 100000 in
theorem spec_NurseryOk.eq16 (k : Nat) (x0 : List ByteArray) (x3_0 : Int) (x3_1 : List Int) (x5 : List Int) (x7 : Int) : fromPt Tryd.prog spec_NurseryOk.E k spec_NurseryOk.a (spec_NurseryOk.G k) 1000 (bodyOf Tryd.prog 18) 16 [.con .str x0, .box 0 0, .own 1, .v (.int .i64 x7)] [.box [.v (.int .i64 x3_0), .con (.int .i64) x3_1], .row 2 (.int .i64) x5] = spec_NurseryOk.p16 (k + 1) x0 x3_0 x3_1 x5 x7 := by kernel_rfl
theorem spec_NurseryOk.G16_0 {avs : List AV} {H : List HE} : spec_NurseryOk.G16 0 avs H = none := by unfold spec_NurseryOk.G16; split <;> rfl
theorem spec_NurseryOk.G16_s (k : Nat) {avs : List AV} {H : List HE} {x : Bool} (h : spec_NurseryOk.G16 (k + 1) avs H = some x) : fromPt Tryd.prog spec_NurseryOk.E k spec_NurseryOk.a (spec_NurseryOk.G k) 1000 (bodyOf Tryd.prog 18) 16 avs H = some x := by
  unfold spec_NurseryOk.G16 at h
  split at h
  · rw [← h]; exact spec_NurseryOk.eq16 _ _ _ _ _ _
  · cases h
set_option maxRecDepth 100000 in
theorem spec_NurseryOk.eq30 (k : Nat) (x0 : List ByteArray) (x3_0 : Int) (x3_1 : List Int) (x5 : List Int) (x7 : Int) (x8 : ByteArray) (x9 : Int) : fromPt Tryd.prog spec_NurseryOk.E k spec_NurseryOk.a (spec_NurseryOk.G k) 1000 (bodyOf Tryd.prog 18) 30 [.con .str x0, .box 0 0, .own 1, .v (.int .i64 x7), .v (.string x8), .v (.int .i64 x9)] [.box [.v (.int .i64 x3_0), .con (.int .i64) x3_1], .row 2 (.int .i64) x5] = spec_NurseryOk.p30 (k + 1) x0 x3_0 x3_1 x5 x7 x8 x9 := by kernel_rfl
theorem spec_NurseryOk.G30_0 {avs : List AV} {H : List HE} : spec_NurseryOk.G30 0 avs H = none := by unfold spec_NurseryOk.G30; split <;> rfl
theorem spec_NurseryOk.G30_s (k : Nat) {avs : List AV} {H : List HE} {x : Bool} (h : spec_NurseryOk.G30 (k + 1) avs H = some x) : fromPt Tryd.prog spec_NurseryOk.E k spec_NurseryOk.a (spec_NurseryOk.G k) 1000 (bodyOf Tryd.prog 18) 30 avs H = some x := by
  unfold spec_NurseryOk.G30 at h
  split at h
  · rw [← h]; exact spec_NurseryOk.eq30 _ _ _ _ _ _ _ _
  · cases h
theorem spec_NurseryOk.E_ok : EnvOk Tryd.prog spec_NurseryOk.E := ⟨⟨spec_l8Parse.sound, callable_of (by kernel_rfl)⟩, ⟨spec_l8Ref.sound, callable_of (by kernel_rfl)⟩, trivial⟩
theorem spec_NurseryOk.sound : Sound Tryd.prog 18 spec_NurseryOk.s := by
  refine func_sound (f := spec_NurseryOk.a) (G := spec_NurseryOk.G) (fn := Tryd.f18) (body := bodyOf Tryd.prog 18) 1000 (by kernel_rfl) spec_NurseryOk.E_ok Tryd.func18 (by kernel_rfl) (by kernel_rfl) (by kernel_rfl) (ptsOk_of (by kernel_rfl)) ?_ ?_ ?_ ?_
  · intro r H x h
    unfold spec_NurseryOk.a at h
    simp only at h
    split at h
    · cases h; rfl
    · cases h
  · exact fun q avs H => pick1_none spec_NurseryOk.G16_0 (pick1_none spec_NurseryOk.G30_0 (rfl))
  · intro k q pt avs H x _ h
    rcases pick1_some h with ⟨rfl, h⟩ | h
    · exact spec_NurseryOk.G16_s _ h
    rcases pick1_some h with ⟨rfl, h⟩ | h
    · exact spec_NurseryOk.G30_s _ h
    cases h
  · intro k avs H o h
    try dsimp only at h
    split at h
    · cases h; exact spec_NurseryOk.eq _ _ _ _
    · cases h

def spec_l8Copy.f (a0_0 : Int) (a0_1 : List Int) : Option (Int × List Int) := (if 0 + a0_1.length ≤ 17592186044416 then (some (a0_0, (([] : List Int) ++ a0_1))) else none)
def spec_l8Copy.a : FnA (Int × List Int) := ⟨10, [.cell 2 30], .agg [.val, .row 2 (.int .i64)], [], [], fun x H => match x, H with
  | .agg [.v (.int .i64 r_0), .own 0], [.row 2 (.int .i64) r_1] => some (r_0, r_1)
  | _, _ => none⟩
def spec_l8Copy.s : Spec := mkS [.agg [.val, .con (.int .i64)]] (fun k avs H => match avs, H with
  | [.agg [.v (.int .i64 a0_0), .con (.int .i64) a0_1]], [] => some (spec_l8Copy.f a0_0 a0_1)
  | _, _ => none) (fun r => (.agg [.v (.int .i64 r.1), .own 0], [.row 2 (.int .i64) r.2]))
def spec_l8Copy.E : Env := []
def spec_l8Copy.G (k p : Nat) (avs : List AV) (H : List HE) : Option (Int × List Int) := none
set_option maxRecDepth 100000 in
theorem spec_l8Copy.eq (k : Nat) (a0_0 : Int) (a0_1 : List Int) : fromTop Tryd.prog spec_l8Copy.E k spec_l8Copy.a (spec_l8Copy.G k) 1000 (bodyOf Tryd.prog 68) [.agg [.v (.int .i64 a0_0), .con (.int .i64) a0_1]] [] = spec_l8Copy.f a0_0 a0_1 := by kernel_rfl
theorem spec_l8Copy.E_ok : EnvOk Tryd.prog spec_l8Copy.E := trivial
theorem spec_l8Copy.sound : Sound Tryd.prog 68 spec_l8Copy.s := by
  refine func_sound (f := spec_l8Copy.a) (G := spec_l8Copy.G) (fn := Tryd.f68) (body := bodyOf Tryd.prog 68) 1000 (by kernel_rfl) spec_l8Copy.E_ok Tryd.func68 (by kernel_rfl) (by kernel_rfl) (by kernel_rfl) (ptsOk_of (by kernel_rfl)) ?_ ?_ ?_ ?_
  · intro r H x h
    unfold spec_l8Copy.a at h
    simp only at h
    split at h
    · cases h; rfl
    · cases h
  · intro q avs H; rfl
  · intro k q pt avs H x _ h; cases h
  · intro k avs H o h
    try dsimp only at h
    split at h
    · cases h; exact spec_l8Copy.eq _ _ _
    · cases h

def spec_YoungAlloc.f (k : Nat) (a0 : List ByteArray) (a1_0 : Int) (a1_1 : List Int) (a2 : Int) : Option (Int × List Int × Int × Int) := ((spec_NurseryOk.f k a0 a1_0 a1_1).bind fun t1 => (if t1 = true then ((spec_l1In.f a2 0 (wrap64 ((a0.length : Int) - 1))).bind fun t2 => (if t2 = true then (if 0 ≤ a2 then (if a2 < (a0.length : Int) then (if (wrap64 ((wrap64 ((a1_1.length : Int) + 1)) + ((rdOf ByteArray.empty a0 a2).size : Int))) > a1_0 then (some (0, ([] : List Int), 0, 3)) else ((spec_l8Copy.f a1_0 a1_1).bind fun t3 => (if t3.2.length + 1 ≤ 17592186044416 then (if 0 ≤ a2 then (if a2 < (a0.length : Int) then (if 0 ≤ ((rdOf ByteArray.empty a0 a2).size : Int) then (if (t3.2 ++ ([(wrap64 (4 * a2))] : List Int)).length + (List.replicate ((rdOf ByteArray.empty a0 a2).size : Int).toNat (0 : Int)).length ≤ 17592186044416 then (some (t3.1, ((t3.2 ++ ([(wrap64 (4 * a2))] : List Int)) ++ (List.replicate ((rdOf ByteArray.empty a0 a2).size : Int).toNat (0 : Int))), (wrap64 ((wrap64 (2 * (a1_1.length : Int))) + 1)), 0)) else none) else none) else none) else none) else none))) else none) else none) else (some (0, ([] : List Int), 0, 2)))) else (some (0, ([] : List Int), 0, 1))))
def spec_YoungAlloc.a : FnA (Int × List Int × Int × Int) := ⟨57, [.cell 6 30, .tmp 7, .tmp 8], .tup [.agg [.val, .row 2 (.int .i64)], .val, .val], [], [], fun x H => match x, H with
  | .tup [.agg [.v (.int .i64 r_0_0), .own 0], .v (.int .i64 r_1), .v (.int .i64 r_2)], [.row 2 (.int .i64) r_0_1] => some (r_0_0, r_0_1, r_1, r_2)
  | _, _ => none⟩
def spec_YoungAlloc.s : Spec := mkS [.con .str, .agg [.val, .con (.int .i64)], .val] (fun k avs H => match avs, H with
  | [.con .str a0, .agg [.v (.int .i64 a1_0), .con (.int .i64) a1_1], .v (.int .i64 a2)], [] => some (spec_YoungAlloc.f k a0 a1_0 a1_1 a2)
  | _, _ => none) (fun r => (.tup [.agg [.v (.int .i64 r.1), .own 0], .v (.int .i64 r.2.2.1), .v (.int .i64 r.2.2.2)], [.row 2 (.int .i64) r.2.1]))
def spec_YoungAlloc.E : Env := [((18, []), spec_NurseryOk.s), ((67, []), spec_l1In.s), ((68, []), spec_l8Copy.s)]
def spec_YoungAlloc.G (k p : Nat) (avs : List AV) (H : List HE) : Option (Int × List Int × Int × Int) := none
set_option maxRecDepth 100000 in
theorem spec_YoungAlloc.eq (k : Nat) (a0 : List ByteArray) (a1_0 : Int) (a1_1 : List Int) (a2 : Int) : fromTop Tryd.prog spec_YoungAlloc.E k spec_YoungAlloc.a (spec_YoungAlloc.G k) 1000 (bodyOf Tryd.prog 38) [.con .str a0, .agg [.v (.int .i64 a1_0), .con (.int .i64) a1_1], .v (.int .i64 a2)] [] = spec_YoungAlloc.f k a0 a1_0 a1_1 a2 := by kernel_rfl
theorem spec_YoungAlloc.E_ok : EnvOk Tryd.prog spec_YoungAlloc.E := ⟨⟨spec_NurseryOk.sound, callable_of (by kernel_rfl)⟩, ⟨spec_l1In.sound, callable_of (by kernel_rfl)⟩, ⟨spec_l8Copy.sound, callable_of (by kernel_rfl)⟩, trivial⟩
theorem spec_YoungAlloc.sound : Sound Tryd.prog 38 spec_YoungAlloc.s := by
  refine func_sound (f := spec_YoungAlloc.a) (G := spec_YoungAlloc.G) (fn := Tryd.f38) (body := bodyOf Tryd.prog 38) 1000 (by kernel_rfl) spec_YoungAlloc.E_ok Tryd.func38 (by kernel_rfl) (by kernel_rfl) (by kernel_rfl) (ptsOk_of (by kernel_rfl)) ?_ ?_ ?_ ?_
  · intro r H x h
    unfold spec_YoungAlloc.a at h
    simp only at h
    split at h
    · cases h; rfl
    · cases h
  · intro q avs H; rfl
  · intro k q pt avs H x _ h; cases h
  · intro k avs H o h
    try dsimp only at h
    split at h
    · cases h; exact spec_YoungAlloc.eq _ _ _ _ _
    · cases h

def spec_Starts.f (k : Nat) (a0 : List ByteArray) (a1_0 : Int) (a1_1 : List Int) : Option (List Int) := ((spec_NurseryOk.f k a0 a1_0 a1_1).bind fun t1 => (if t1 = true then ((spec_l8Parse.f k a0 a1_0 a1_1).bind fun t2 => (some t2.1)) else (some ([] : List Int))))
def spec_Starts.a : FnA (List Int) := ⟨18, [.tmp 4], .row 2 (.int .i64), [], [], fun x H => match x, H with
  | .own 0, [.row 2 (.int .i64) r] => some r
  | _, _ => none⟩
def spec_Starts.s : Spec := mkS [.con .str, .agg [.val, .con (.int .i64)]] (fun k avs H => match avs, H with
  | [.con .str a0, .agg [.v (.int .i64 a1_0), .con (.int .i64) a1_1]], [] => some (spec_Starts.f k a0 a1_0 a1_1)
  | _, _ => none) (fun r => (.own 0, [.row 2 (.int .i64) r]))
def spec_Starts.E : Env := [((18, []), spec_NurseryOk.s), ((58, []), spec_l8Parse.s)]
def spec_Starts.G (k p : Nat) (avs : List AV) (H : List HE) : Option (List Int) := none
set_option maxRecDepth 100000 in
theorem spec_Starts.eq (k : Nat) (a0 : List ByteArray) (a1_0 : Int) (a1_1 : List Int) : fromTop Tryd.prog spec_Starts.E k spec_Starts.a (spec_Starts.G k) 1000 (bodyOf Tryd.prog 24) [.con .str a0, .agg [.v (.int .i64 a1_0), .con (.int .i64) a1_1]] [] = spec_Starts.f k a0 a1_0 a1_1 := by kernel_rfl
theorem spec_Starts.E_ok : EnvOk Tryd.prog spec_Starts.E := ⟨⟨spec_NurseryOk.sound, callable_of (by kernel_rfl)⟩, ⟨spec_l8Parse.sound, callable_of (by kernel_rfl)⟩, trivial⟩
theorem spec_Starts.sound : Sound Tryd.prog 24 spec_Starts.s := by
  refine func_sound (f := spec_Starts.a) (G := spec_Starts.G) (fn := Tryd.f24) (body := bodyOf Tryd.prog 24) 1000 (by kernel_rfl) spec_Starts.E_ok Tryd.func24 (by kernel_rfl) (by kernel_rfl) (by kernel_rfl) (ptsOk_of (by kernel_rfl)) ?_ ?_ ?_ ?_
  · intro r H x h
    unfold spec_Starts.a at h
    simp only at h
    split at h
    · cases h; rfl
    · cases h
  · intro q avs H; rfl
  · intro k q pt avs H x _ h; cases h
  · intro k avs H o h
    try dsimp only at h
    split at h
    · cases h; exact spec_Starts.eq _ _ _ _
    · cases h

def spec_l8Obj.f (a0 : List ByteArray) (a1_0 : Int) (a1_1 : List Int) (a2 : Int) : Option (Int × List Int) := (if 0 ≤ a2 then (if a2 < (a1_1.length : Int) then (if 0 ≤ (wrap64 (Int.tdiv (rd a1_1 a2) 4)) then (if (wrap64 (Int.tdiv (rd a1_1 a2) 4)) < (a0.length : Int) then (if 0 ≤ (wrap64 ((wrap64 (a2 + 1)) + ((rdOf ByteArray.empty a0 (wrap64 (Int.tdiv (rd a1_1 a2) 4))).size : Int))) then (if (wrap64 ((wrap64 (a2 + 1)) + ((rdOf ByteArray.empty a0 (wrap64 (Int.tdiv (rd a1_1 a2) 4))).size : Int))) ≤ (a1_1.length : Int) then (if 0 ≤ (wrap64 (a2 + 1)) then (if (wrap64 (a2 + 1)) ≤ (wrap64 ((wrap64 (a2 + 1)) + ((rdOf ByteArray.empty a0 (wrap64 (Int.tdiv (rd a1_1 a2) 4))).size : Int))) then (if 0 + ((a1_1.take (wrap64 ((wrap64 (a2 + 1)) + ((rdOf ByteArray.empty a0 (wrap64 (Int.tdiv (rd a1_1 a2) 4))).size : Int))).toNat).drop (wrap64 (a2 + 1)).toNat).length ≤ 17592186044416 then (some ((wrap64 (Int.tdiv (rd a1_1 a2) 4)), (([] : List Int) ++ ((a1_1.take (wrap64 ((wrap64 (a2 + 1)) + ((rdOf ByteArray.empty a0 (wrap64 (Int.tdiv (rd a1_1 a2) 4))).size : Int))).toNat).drop (wrap64 (a2 + 1)).toNat)))) else none) else none) else none) else none) else none) else none) else none) else none) else none)
def spec_l8Obj.a : FnA (Int × List Int) := ⟨31, [.cell 6 40], .agg [.val, .row 2 (.int .i64)], [], [], fun x H => match x, H with
  | .agg [.v (.int .i64 r_0), .own 0], [.row 2 (.int .i64) r_1] => some (r_0, r_1)
  | _, _ => none⟩
def spec_l8Obj.s : Spec := mkS [.con .str, .agg [.val, .con (.int .i64)], .val] (fun k avs H => match avs, H with
  | [.con .str a0, .agg [.v (.int .i64 a1_0), .con (.int .i64) a1_1], .v (.int .i64 a2)], [] => some (spec_l8Obj.f a0 a1_0 a1_1 a2)
  | _, _ => none) (fun r => (.agg [.v (.int .i64 r.1), .own 0], [.row 2 (.int .i64) r.2]))
def spec_l8Obj.E : Env := []
def spec_l8Obj.G (k p : Nat) (avs : List AV) (H : List HE) : Option (Int × List Int) := none
set_option maxRecDepth 100000 in
theorem spec_l8Obj.eq (k : Nat) (a0 : List ByteArray) (a1_0 : Int) (a1_1 : List Int) (a2 : Int) : fromTop Tryd.prog spec_l8Obj.E k spec_l8Obj.a (spec_l8Obj.G k) 1000 (bodyOf Tryd.prog 64) [.con .str a0, .agg [.v (.int .i64 a1_0), .con (.int .i64) a1_1], .v (.int .i64 a2)] [] = spec_l8Obj.f a0 a1_0 a1_1 a2 := by kernel_rfl
theorem spec_l8Obj.E_ok : EnvOk Tryd.prog spec_l8Obj.E := trivial
theorem spec_l8Obj.sound : Sound Tryd.prog 64 spec_l8Obj.s := by
  refine func_sound (f := spec_l8Obj.a) (G := spec_l8Obj.G) (fn := Tryd.f64) (body := bodyOf Tryd.prog 64) 1000 (by kernel_rfl) spec_l8Obj.E_ok Tryd.func64 (by kernel_rfl) (by kernel_rfl) (by kernel_rfl) (ptsOk_of (by kernel_rfl)) ?_ ?_ ?_ ?_
  · intro r H x h
    unfold spec_l8Obj.a at h
    simp only at h
    split at h
    · cases h; rfl
    · cases h
  · intro q avs H; rfl
  · intro k q pt avs H x _ h; cases h
  · intro k avs H o h
    try dsimp only at h
    split at h
    · cases h; exact spec_l8Obj.eq _ _ _ _ _
    · cases h

def spec_YoungObject.f (k : Nat) (a0 : List ByteArray) (a1_0 : Int) (a1_1 : List Int) (a2 : Int) : Option (Int × List Int × Bool) := ((spec_RefKind.f a2).bind fun t1 => (if t1 = 2 then ((spec_Starts.f k a0 a1_0 a1_1).bind fun t2 => ((spec_l7Place.f k t2 (wrap64 (Int.tdiv a2 2))).bind fun t3 => (if t3 < 0 then (some (0, ([] : List Int), false)) else ((spec_l8Obj.f a0 a1_0 a1_1 (wrap64 (Int.tdiv a2 2))).bind fun t4 => (some (t4.1, t4.2, true)))))) else (some (0, ([] : List Int), false))))
def spec_YoungObject.a : FnA (Int × List Int × Bool) := ⟨26, [.cell 6 40, .tmp 7], .tup [.agg [.val, .row 2 (.int .i64)], .bool], [], [], fun x H => match x, H with
  | .tup [.agg [.v (.int .i64 r_0_0), .own 0], .bs false r_1], [.row 2 (.int .i64) r_0_1] => some (r_0_0, r_0_1, r_1)
  | _, _ => none⟩
def spec_YoungObject.s : Spec := mkS [.con .str, .agg [.val, .con (.int .i64)], .val] (fun k avs H => match avs, H with
  | [.con .str a0, .agg [.v (.int .i64 a1_0), .con (.int .i64) a1_1], .v (.int .i64 a2)], [] => some (spec_YoungObject.f k a0 a1_0 a1_1 a2)
  | _, _ => none) (fun r => (.tup [.agg [.v (.int .i64 r.1), .own 0], .bs false r.2.2], [.row 2 (.int .i64) r.2.1]))
def spec_YoungObject.E : Env := [((62, []), spec_RefKind.s), ((24, []), spec_Starts.s), ((63, []), spec_l7Place.s), ((64, []), spec_l8Obj.s)]
def spec_YoungObject.G (k p : Nat) (avs : List AV) (H : List HE) : Option (Int × List Int × Bool) := none
set_option maxRecDepth 100000 in
theorem spec_YoungObject.eq (k : Nat) (a0 : List ByteArray) (a1_0 : Int) (a1_1 : List Int) (a2 : Int) : fromTop Tryd.prog spec_YoungObject.E k spec_YoungObject.a (spec_YoungObject.G k) 1000 (bodyOf Tryd.prog 33) [.con .str a0, .agg [.v (.int .i64 a1_0), .con (.int .i64) a1_1], .v (.int .i64 a2)] [] = spec_YoungObject.f k a0 a1_0 a1_1 a2 := by kernel_rfl
theorem spec_YoungObject.E_ok : EnvOk Tryd.prog spec_YoungObject.E := ⟨⟨spec_RefKind.sound, callable_of (by kernel_rfl)⟩, ⟨spec_Starts.sound, callable_of (by kernel_rfl)⟩, ⟨spec_l7Place.sound, callable_of (by kernel_rfl)⟩, ⟨spec_l8Obj.sound, callable_of (by kernel_rfl)⟩, trivial⟩
theorem spec_YoungObject.sound : Sound Tryd.prog 33 spec_YoungObject.s := by
  refine func_sound (f := spec_YoungObject.a) (G := spec_YoungObject.G) (fn := Tryd.f33) (body := bodyOf Tryd.prog 33) 1000 (by kernel_rfl) spec_YoungObject.E_ok Tryd.func33 (by kernel_rfl) (by kernel_rfl) (by kernel_rfl) (ptsOk_of (by kernel_rfl)) ?_ ?_ ?_ ?_
  · intro r H x h
    unfold spec_YoungObject.a at h
    simp only at h
    split at h
    · cases h; rfl
    · cases h
  · intro q avs H; rfl
  · intro k q pt avs H x _ h; cases h
  · intro k avs H o h
    try dsimp only at h
    split at h
    · cases h; exact spec_YoungObject.eq _ _ _ _ _
    · cases h

def spec_YoungSet.p7 : Nat → Int → Int → Int → Int → List Int → Int → Bool → Option (Int × List Int × Bool)
 | 0, _, _, _, _, _, _, _ => none
 | k + 1, x2, x3, x4, x6_0, x6_1, x10_0, x50 => (if x50 = true then (some (0, ([] : List Int), false)) else ((spec_l8Copy.f x6_0 x6_1).bind fun t5 => (if 0 ≤ (wrap64 ((wrap64 ((wrap64 (Int.tdiv x2 2)) + 1)) + x3)) then (if (wrap64 ((wrap64 ((wrap64 (Int.tdiv x2 2)) + 1)) + x3)) < (t5.2.length : Int) then (some (t5.1, (t5.2.set (wrap64 ((wrap64 ((wrap64 (Int.tdiv x2 2)) + 1)) + x3)).toNat x4), true)) else none) else none)))
def spec_YoungSet.f (k : Nat) (a0 : List ByteArray) (a1_0 : Int) (a1_1 : List Int) (a2 : Int) (a3 : Int) (a4 : Int) : Option (Int × List Int × Bool) := ((spec_YoungObject.f k a0 a1_0 a1_1 a2).bind fun t1 => (if t1.2.2 = true then ((spec_l1In.f a3 0 (wrap64 ((t1.2.1.length : Int) - 1))).bind fun t2 => (if t2 = true then (if 0 ≤ t1.1 then (if t1.1 < (a0.length : Int) then (if 0 ≤ a3 then (if a3 < ((rdOf ByteArray.empty a0 t1.1).size : Int) then (if (byteAt (rdOf ByteArray.empty a0 t1.1) a3) = 114 then ((spec_Starts.f k a0 a1_0 a1_1).bind fun t3 => ((spec_l8Ref.f k t3 a4).bind fun t4 => (spec_YoungSet.p7 k a2 a3 a4 a1_0 a1_1 0 (!t4)))) else (spec_YoungSet.p7 k a2 a3 a4 a1_0 a1_1 0 false)) else none) else none) else none) else none) else (spec_YoungSet.p7 k a2 a3 a4 a1_0 a1_1 0 true))) else (spec_YoungSet.p7 k a2 a3 a4 a1_0 a1_1 0 true)))
def spec_YoungSet.a : FnA (Int × List Int × Bool) := ⟨64, [.cell 10 30, .tmp 11], .tup [.agg [.val, .row 2 (.int .i64)], .bool], [], [⟨7, [2, 3, 4, 6, 10, 50], [.val, .val, .val, .box [.val, .con (.int .i64)], .box [.val, .val], .bool], []⟩], fun x H => match x, H with
  | .tup [.agg [.v (.int .i64 r_0_0), .own 0], .bs false r_1], [.row 2 (.int .i64) r_0_1] => some (r_0_0, r_0_1, r_1)
  | _, _ => none⟩
def spec_YoungSet.s : Spec := mkS [.con .str, .agg [.val, .con (.int .i64)], .val, .val, .val] (fun k avs H => match avs, H with
  | [.con .str a0, .agg [.v (.int .i64 a1_0), .con (.int .i64) a1_1], .v (.int .i64 a2), .v (.int .i64 a3), .v (.int .i64 a4)], [] => some (spec_YoungSet.f k a0 a1_0 a1_1 a2 a3 a4)
  | _, _ => none) (fun r => (.tup [.agg [.v (.int .i64 r.1), .own 0], .bs false r.2.2], [.row 2 (.int .i64) r.2.1]))
def spec_YoungSet.E : Env := [((33, []), spec_YoungObject.s), ((67, []), spec_l1In.s), ((24, []), spec_Starts.s), ((59, []), spec_l8Ref.s), ((68, []), spec_l8Copy.s)]
def spec_YoungSet.G7 (k : Nat) (avs : List AV) (H : List HE) : Option (Int × List Int × Bool) := match avs, H with
  | [.v (.int .i64 x2), .v (.int .i64 x3), .v (.int .i64 x4), .box 0 0, .box 1 0, .bs false x50], [.box [.v (.int .i64 x6_0), .con (.int .i64) x6_1], .box [.v (.int .i64 x10_0), .v (.slice none 0 0)]] => spec_YoungSet.p7 k x2 x3 x4 x6_0 x6_1 x10_0 x50
  | _, _ => none
def spec_YoungSet.G (k p : Nat) (avs : List AV) (H : List HE) : Option (Int × List Int × Bool) := (pick1 7 (spec_YoungSet.G7 k avs H) none p)
set_option maxRecDepth 100000 in
theorem spec_YoungSet.eq (k : Nat) (a0 : List ByteArray) (a1_0 : Int) (a1_1 : List Int) (a2 : Int) (a3 : Int) (a4 : Int) : fromTop Tryd.prog spec_YoungSet.E k spec_YoungSet.a (spec_YoungSet.G k) 1000 (bodyOf Tryd.prog 41) [.con .str a0, .agg [.v (.int .i64 a1_0), .con (.int .i64) a1_1], .v (.int .i64 a2), .v (.int .i64 a3), .v (.int .i64 a4)] [] = spec_YoungSet.f k a0 a1_0 a1_1 a2 a3 a4 := by kernel_rfl
set_option maxRecDepth 100000 in
theorem spec_YoungSet.eq7 (k : Nat) (x2 : Int) (x3 : Int) (x4 : Int) (x6_0 : Int) (x6_1 : List Int) (x10_0 : Int) (x50 : Bool) : fromPt Tryd.prog spec_YoungSet.E k spec_YoungSet.a (spec_YoungSet.G k) 1000 (bodyOf Tryd.prog 41) 7 [.v (.int .i64 x2), .v (.int .i64 x3), .v (.int .i64 x4), .box 0 0, .box 1 0, .bs false x50] [.box [.v (.int .i64 x6_0), .con (.int .i64) x6_1], .box [.v (.int .i64 x10_0), .v (.slice none 0 0)]] = spec_YoungSet.p7 (k + 1) x2 x3 x4 x6_0 x6_1 x10_0 x50 := by kernel_rfl
theorem spec_YoungSet.G7_0 {avs : List AV} {H : List HE} : spec_YoungSet.G7 0 avs H = none := by unfold spec_YoungSet.G7; split <;> rfl
theorem spec_YoungSet.G7_s (k : Nat) {avs : List AV} {H : List HE} {x : Int × List Int × Bool} (h : spec_YoungSet.G7 (k + 1) avs H = some x) : fromPt Tryd.prog spec_YoungSet.E k spec_YoungSet.a (spec_YoungSet.G k) 1000 (bodyOf Tryd.prog 41) 7 avs H = some x := by
  unfold spec_YoungSet.G7 at h
  split at h
  · rw [← h]; exact spec_YoungSet.eq7 _ _ _ _ _ _ _ _
  · cases h
theorem spec_YoungSet.E_ok : EnvOk Tryd.prog spec_YoungSet.E := ⟨⟨spec_YoungObject.sound, callable_of (by kernel_rfl)⟩, ⟨spec_l1In.sound, callable_of (by kernel_rfl)⟩, ⟨spec_Starts.sound, callable_of (by kernel_rfl)⟩, ⟨spec_l8Ref.sound, callable_of (by kernel_rfl)⟩, ⟨spec_l8Copy.sound, callable_of (by kernel_rfl)⟩, trivial⟩
theorem spec_YoungSet.sound : Sound Tryd.prog 41 spec_YoungSet.s := by
  refine func_sound (f := spec_YoungSet.a) (G := spec_YoungSet.G) (fn := Tryd.f41) (body := bodyOf Tryd.prog 41) 1000 (by kernel_rfl) spec_YoungSet.E_ok Tryd.func41 (by kernel_rfl) (by kernel_rfl) (by kernel_rfl) (ptsOk_of (by kernel_rfl)) ?_ ?_ ?_ ?_
  · intro r H x h
    unfold spec_YoungSet.a at h
    simp only at h
    split at h
    · cases h; rfl
    · cases h
  · exact fun q avs H => pick1_none spec_YoungSet.G7_0 (rfl)
  · intro k q pt avs H x _ h
    rcases pick1_some h with ⟨rfl, h⟩ | h
    · exact spec_YoungSet.G7_s _ h
    cases h
  · intro k avs H o h
    try dsimp only at h
    split at h
    · cases h; exact spec_YoungSet.eq _ _ _ _ _ _ _
    · cases h

mutual
def spec_l1Rd_nursery.p10 : Nat → List Int → Int → List ByteArray → Int → Int → List Int → List Int → Int → Option (List Int × Int × Int × List Int)
 | 0, _, _, _, _, _, _, _, _ => none
 | k + 1, h0_0, h0_1, x1, x4_0, x5_0, x5_1, x6, x7 => (if x7 > 0 then ((spec_l1Rd_below.f h0_0 h0_1 (x1.length : Int)).bind fun t4 => ((spec_YoungAlloc.f k x1 x5_0 x5_1 t4.2.2).bind fun t5 => (if t5.2.2.2 = 0 then (if x6.length + 1 ≤ 17592186044416 then (spec_l1Rd_nursery.p29 k t4.1 t4.2.1 x1 x4_0 t5.1 t5.2.1 (x6 ++ ([t5.2.2.1] : List Int)) x7 t5.1) else none) else (spec_l1Rd_nursery.p29 k t4.1 t4.2.1 x1 x4_0 x5_0 x5_1 x6 x7 t5.1)))) else (some (h0_0, h0_1, x5_0, x5_1)))
def spec_l1Rd_nursery.p29 : Nat → List Int → Int → List ByteArray → Int → Int → List Int → List Int → Int → Int → Option (List Int × Int × Int × List Int)
 | 0, _, _, _, _, _, _, _, _, _ => none
 | k + 1, h0_0, h0_1, x1, x4_0, x5_0, x5_1, x6, x7, x8_0 => ((spec_l1Rd_below.f h0_0 h0_1 (x6.length : Int)).bind fun t8 => (if 0 ≤ t8.2.2 then (if t8.2.2 < (x6.length : Int) then ((spec_l1Rd_below.f t8.1 t8.2.1 (x6.length : Int)).bind fun t9 => (if 0 ≤ t9.2.2 then (if t9.2.2 < (x6.length : Int) then ((spec_l1Rd_below.f t9.1 t9.2.1 3).bind fun t10 => ((spec_YoungSet.f k x1 x5_0 x5_1 (rd x6 t8.2.2) t10.2.2 (rd x6 t9.2.2)).bind fun t11 => (if t11.2.2 = true then (spec_l1Rd_nursery.p41 k t10.1 t10.2.1 x1 x4_0 t11.1 t11.2.1 x6 x7) else (spec_l1Rd_nursery.p41 k t10.1 t10.2.1 x1 x4_0 x5_0 x5_1 x6 x7)))) else none) else none)) else none) else none))
def spec_l1Rd_nursery.p41 : Nat → List Int → Int → List ByteArray → Int → Int → List Int → List Int → Int → Option (List Int × Int × Int × List Int)
 | 0, _, _, _, _, _, _, _, _ => none
 | k + 1, h0_0, h0_1, x1, x4_0, x5_0, x5_1, x6, x7 => (if (x5_1.length : Int) > 0 then ((spec_l1Rd_once.f h0_0 h0_1 4).bind fun t7 => (spec_l1Rd_nursery.p43 k t7.1 t7.2.1 x1 x4_0 x5_0 x5_1 x6 x7 t7.2.2)) else (spec_l1Rd_nursery.p43 k h0_0 h0_1 x1 x4_0 x5_0 x5_1 x6 x7 false))
def spec_l1Rd_nursery.p43 : Nat → List Int → Int → List ByteArray → Int → Int → List Int → List Int → Int → Bool → Option (List Int × Int × Int × List Int)
 | 0, _, _, _, _, _, _, _, _, _ => none
 | k + 1, h0_0, h0_1, x1, x4_0, x5_0, x5_1, x6, x7, x80 => (if x80 = true then (if 0 < (x5_1.length : Int) then ((spec_l1Rd_below.f h0_0 h0_1 4).bind fun t6 => (if 0 < (x5_1.length : Int) then (spec_l1Rd_nursery.p10 k t6.1 t6.2.1 x1 x4_0 x5_0 (x5_1.set 0 (wrap64 ((wrap64 ((wrap64 (Int.tdiv (rd x5_1 0) 4)) * 4)) + t6.2.2))) x6 (wrap64 (x7 - 1))) else none)) else none) else (spec_l1Rd_nursery.p10 k h0_0 h0_1 x1 x4_0 x5_0 x5_1 x6 (wrap64 (x7 - 1))))
end
def spec_l1Rd_nursery.f (k : Nat) (a0_0 : List Int) (a0_1 : Int) (a1 : List ByteArray) : Option (List Int × Int × Int × List Int) := ((spec_l1Rd_below.f a0_0 a0_1 60).bind fun t1 => ((spec_l1Rd_below.f t1.1 t1.2.1 60).bind fun t2 => ((spec_l1Rd_size.f t2.1 t2.2.1 4 14).bind fun t3 => (spec_l1Rd_nursery.p10 k t3.1 t3.2.1 a1 0 (wrap64 (6 + t1.2.2)) ([] : List Int) ([0, (wrap64 (2 * (wrap64 (1 + t2.2.2))))] : List Int) t3.2.2))))
def spec_l1Rd_nursery.a : FnA (List Int × Int × Int × List Int) := ⟨94, [.cell 4 30], .agg [.val, .row 2 (.int .i64)], [.box [.con (.int .u8), .val]], [⟨10, [0, 1, 4, 5, 6, 7], [.box [], .con .str, .box [.val, .val], .box [.val, .row 2 (.int .i64)], .row 2 (.int .i64), .val], [.box [.con (.int .u8), .val]]⟩, ⟨29, [0, 1, 4, 5, 6, 7, 8], [.box [], .con .str, .box [.val, .val], .box [.val, .row 2 (.int .i64)], .row 2 (.int .i64), .val, .box [.val, .dead]], [.box [.con (.int .u8), .val]]⟩, ⟨41, [0, 1, 4, 5, 6, 7], [.box [], .con .str, .box [.val, .val], .box [.val, .row 2 (.int .i64)], .row 2 (.int .i64), .val], [.box [.con (.int .u8), .val]]⟩, ⟨43, [0, 1, 4, 5, 6, 7, 80], [.box [], .con .str, .box [.val, .val], .box [.val, .row 2 (.int .i64)], .row 2 (.int .i64), .val, .bool], [.box [.con (.int .u8), .val]]⟩], fun x H => match x, H with
  | .agg [.v (.int .i64 r_0), .own 1], [.box [.con (.int .u8) h0_0, .v (.int .i64 h0_1)], .row 2 (.int .i64) r_1] => some (h0_0, h0_1, r_0, r_1)
  | _, _ => none⟩
def spec_l1Rd_nursery.s : Spec := mkS [.box [.con (.int .u8), .val], .con .str] (fun k avs H => match avs, H with
  | [.box 0 0, .con .str a1], [.box [.con (.int .u8) a0_0, .v (.int .i64 a0_1)]] => some (spec_l1Rd_nursery.f k a0_0 a0_1 a1)
  | _, _ => none) (fun r => (.agg [.v (.int .i64 r.2.2.1), .own 1], [.box [.con (.int .u8) r.1, .v (.int .i64 r.2.1)], .row 2 (.int .i64) r.2.2.2]))
def spec_l1Rd_nursery.E : Env := [((89, []), spec_l1Rd_below.s), ((102, []), spec_l1Rd_size.s), ((38, []), spec_YoungAlloc.s), ((90, []), spec_l1Rd_once.s), ((41, []), spec_YoungSet.s)]
def spec_l1Rd_nursery.G10 (k : Nat) (avs : List AV) (H : List HE) : Option (List Int × Int × Int × List Int) := match avs, H with
  | [.box 0 0, .con .str x1, .box 1 0, .box 2 0, .own 4, .v (.int .i64 x7)], [.box [.con (.int .u8) h0_0, .v (.int .i64 h0_1)], .box [.v (.int .i64 x4_0), .v (.slice none 0 0)], .box [.v (.int .i64 x5_0), .own 3], .row 2 (.int .i64) x5_1, .row 2 (.int .i64) x6] => spec_l1Rd_nursery.p10 k h0_0 h0_1 x1 x4_0 x5_0 x5_1 x6 x7
  | _, _ => none
def spec_l1Rd_nursery.G29 (k : Nat) (avs : List AV) (H : List HE) : Option (List Int × Int × Int × List Int) := match avs, H with
  | [.box 0 0, .con .str x1, .box 1 0, .box 2 0, .own 4, .v (.int .i64 x7), .box 5 0], [.box [.con (.int .u8) h0_0, .v (.int .i64 h0_1)], .box [.v (.int .i64 x4_0), .v (.slice none 0 0)], .box [.v (.int .i64 x5_0), .own 3], .row 2 (.int .i64) x5_1, .row 2 (.int .i64) x6, .box [.v (.int .i64 x8_0), .dead]] => spec_l1Rd_nursery.p29 k h0_0 h0_1 x1 x4_0 x5_0 x5_1 x6 x7 x8_0
  | _, _ => none
def spec_l1Rd_nursery.G41 (k : Nat) (avs : List AV) (H : List HE) : Option (List Int × Int × Int × List Int) := match avs, H with
  | [.box 0 0, .con .str x1, .box 1 0, .box 2 0, .own 4, .v (.int .i64 x7)], [.box [.con (.int .u8) h0_0, .v (.int .i64 h0_1)], .box [.v (.int .i64 x4_0), .v (.slice none 0 0)], .box [.v (.int .i64 x5_0), .own 3], .row 2 (.int .i64) x5_1, .row 2 (.int .i64) x6] => spec_l1Rd_nursery.p41 k h0_0 h0_1 x1 x4_0 x5_0 x5_1 x6 x7
  | _, _ => none
def spec_l1Rd_nursery.G43 (k : Nat) (avs : List AV) (H : List HE) : Option (List Int × Int × Int × List Int) := match avs, H with
  | [.box 0 0, .con .str x1, .box 1 0, .box 2 0, .own 4, .v (.int .i64 x7), .bs false x80], [.box [.con (.int .u8) h0_0, .v (.int .i64 h0_1)], .box [.v (.int .i64 x4_0), .v (.slice none 0 0)], .box [.v (.int .i64 x5_0), .own 3], .row 2 (.int .i64) x5_1, .row 2 (.int .i64) x6] => spec_l1Rd_nursery.p43 k h0_0 h0_1 x1 x4_0 x5_0 x5_1 x6 x7 x80
  | _, _ => none
def spec_l1Rd_nursery.G (k p : Nat) (avs : List AV) (H : List HE) : Option (List Int × Int × Int × List Int) := (pick1 10 (spec_l1Rd_nursery.G10 k avs H) (pick1 29 (spec_l1Rd_nursery.G29 k avs H) (pick1 41 (spec_l1Rd_nursery.G41 k avs H) (pick1 43 (spec_l1Rd_nursery.G43 k avs H) none p) p) p) p)
set_option maxRecDepth 100000 in
theorem spec_l1Rd_nursery.eq (k : Nat) (a0_0 : List Int) (a0_1 : Int) (a1 : List ByteArray) : fromTop Tryd.prog spec_l1Rd_nursery.E k spec_l1Rd_nursery.a (spec_l1Rd_nursery.G k) 1000 (bodyOf Tryd.prog 83) [.box 0 0, .con .str a1] [.box [.con (.int .u8) a0_0, .v (.int .i64 a0_1)]] = spec_l1Rd_nursery.f k a0_0 a0_1 a1 := by kernel_rfl
set_option maxRecDepth 100000 in
theorem spec_l1Rd_nursery.eq10 (k : Nat) (h0_0 : List Int) (h0_1 : Int) (x1 : List ByteArray) (x4_0 : Int) (x5_0 : Int) (x5_1 : List Int) (x6 : List Int) (x7 : Int) : fromPt Tryd.prog spec_l1Rd_nursery.E k spec_l1Rd_nursery.a (spec_l1Rd_nursery.G k) 1000 (bodyOf Tryd.prog 83) 10 [.box 0 0, .con .str x1, .box 1 0, .box 2 0, .own 4, .v (.int .i64 x7)] [.box [.con (.int .u8) h0_0, .v (.int .i64 h0_1)], .box [.v (.int .i64 x4_0), .v (.slice none 0 0)], .box [.v (.int .i64 x5_0), .own 3], .row 2 (.int .i64) x5_1, .row 2 (.int .i64) x6] = spec_l1Rd_nursery.p10 (k + 1) h0_0 h0_1 x1 x4_0 x5_0 x5_1 x6 x7 := by kernel_rfl
theorem spec_l1Rd_nursery.G10_0 {avs : List AV} {H : List HE} : spec_l1Rd_nursery.G10 0 avs H = none := by unfold spec_l1Rd_nursery.G10; split <;> rfl
theorem spec_l1Rd_nursery.G10_s (k : Nat) {avs : List AV} {H : List HE} {x : List Int × Int × Int × List Int} (h : spec_l1Rd_nursery.G10 (k + 1) avs H = some x) : fromPt Tryd.prog spec_l1Rd_nursery.E k spec_l1Rd_nursery.a (spec_l1Rd_nursery.G k) 1000 (bodyOf Tryd.prog 83) 10 avs H = some x := by
  unfold spec_l1Rd_nursery.G10 at h
  split at h
  · rw [← h]; exact spec_l1Rd_nursery.eq10 _ _ _ _ _ _ _ _ _
  · cases h
set_option maxRecDepth 100000 in
theorem spec_l1Rd_nursery.eq29 (k : Nat) (h0_0 : List Int) (h0_1 : Int) (x1 : List ByteArray) (x4_0 : Int) (x5_0 : Int) (x5_1 : List Int) (x6 : List Int) (x7 : Int) (x8_0 : Int) : fromPt Tryd.prog spec_l1Rd_nursery.E k spec_l1Rd_nursery.a (spec_l1Rd_nursery.G k) 1000 (bodyOf Tryd.prog 83) 29 [.box 0 0, .con .str x1, .box 1 0, .box 2 0, .own 4, .v (.int .i64 x7), .box 5 0] [.box [.con (.int .u8) h0_0, .v (.int .i64 h0_1)], .box [.v (.int .i64 x4_0), .v (.slice none 0 0)], .box [.v (.int .i64 x5_0), .own 3], .row 2 (.int .i64) x5_1, .row 2 (.int .i64) x6, .box [.v (.int .i64 x8_0), .dead]] = spec_l1Rd_nursery.p29 (k + 1) h0_0 h0_1 x1 x4_0 x5_0 x5_1 x6 x7 x8_0 := by kernel_rfl
theorem spec_l1Rd_nursery.G29_0 {avs : List AV} {H : List HE} : spec_l1Rd_nursery.G29 0 avs H = none := by unfold spec_l1Rd_nursery.G29; split <;> rfl
theorem spec_l1Rd_nursery.G29_s (k : Nat) {avs : List AV} {H : List HE} {x : List Int × Int × Int × List Int} (h : spec_l1Rd_nursery.G29 (k + 1) avs H = some x) : fromPt Tryd.prog spec_l1Rd_nursery.E k spec_l1Rd_nursery.a (spec_l1Rd_nursery.G k) 1000 (bodyOf Tryd.prog 83) 29 avs H = some x := by
  unfold spec_l1Rd_nursery.G29 at h
  split at h
  · rw [← h]; exact spec_l1Rd_nursery.eq29 _ _ _ _ _ _ _ _ _ _
  · cases h
set_option maxRecDepth 100000 in
theorem spec_l1Rd_nursery.eq41 (k : Nat) (h0_0 : List Int) (h0_1 : Int) (x1 : List ByteArray) (x4_0 : Int) (x5_0 : Int) (x5_1 : List Int) (x6 : List Int) (x7 : Int) : fromPt Tryd.prog spec_l1Rd_nursery.E k spec_l1Rd_nursery.a (spec_l1Rd_nursery.G k) 1000 (bodyOf Tryd.prog 83) 41 [.box 0 0, .con .str x1, .box 1 0, .box 2 0, .own 4, .v (.int .i64 x7)] [.box [.con (.int .u8) h0_0, .v (.int .i64 h0_1)], .box [.v (.int .i64 x4_0), .v (.slice none 0 0)], .box [.v (.int .i64 x5_0), .own 3], .row 2 (.int .i64) x5_1, .row 2 (.int .i64) x6] = spec_l1Rd_nursery.p41 (k + 1) h0_0 h0_1 x1 x4_0 x5_0 x5_1 x6 x7 := by kernel_rfl
theorem spec_l1Rd_nursery.G41_0 {avs : List AV} {H : List HE} : spec_l1Rd_nursery.G41 0 avs H = none := by unfold spec_l1Rd_nursery.G41; split <;> rfl
theorem spec_l1Rd_nursery.G41_s (k : Nat) {avs : List AV} {H : List HE} {x : List Int × Int × Int × List Int} (h : spec_l1Rd_nursery.G41 (k + 1) avs H = some x) : fromPt Tryd.prog spec_l1Rd_nursery.E k spec_l1Rd_nursery.a (spec_l1Rd_nursery.G k) 1000 (bodyOf Tryd.prog 83) 41 avs H = some x := by
  unfold spec_l1Rd_nursery.G41 at h
  split at h
  · rw [← h]; exact spec_l1Rd_nursery.eq41 _ _ _ _ _ _ _ _ _
  · cases h
set_option maxRecDepth 100000 in
theorem spec_l1Rd_nursery.eq43 (k : Nat) (h0_0 : List Int) (h0_1 : Int) (x1 : List ByteArray) (x4_0 : Int) (x5_0 : Int) (x5_1 : List Int) (x6 : List Int) (x7 : Int) (x80 : Bool) : fromPt Tryd.prog spec_l1Rd_nursery.E k spec_l1Rd_nursery.a (spec_l1Rd_nursery.G k) 1000 (bodyOf Tryd.prog 83) 43 [.box 0 0, .con .str x1, .box 1 0, .box 2 0, .own 4, .v (.int .i64 x7), .bs false x80] [.box [.con (.int .u8) h0_0, .v (.int .i64 h0_1)], .box [.v (.int .i64 x4_0), .v (.slice none 0 0)], .box [.v (.int .i64 x5_0), .own 3], .row 2 (.int .i64) x5_1, .row 2 (.int .i64) x6] = spec_l1Rd_nursery.p43 (k + 1) h0_0 h0_1 x1 x4_0 x5_0 x5_1 x6 x7 x80 := by kernel_rfl
theorem spec_l1Rd_nursery.G43_0 {avs : List AV} {H : List HE} : spec_l1Rd_nursery.G43 0 avs H = none := by unfold spec_l1Rd_nursery.G43; split <;> rfl
theorem spec_l1Rd_nursery.G43_s (k : Nat) {avs : List AV} {H : List HE} {x : List Int × Int × Int × List Int} (h : spec_l1Rd_nursery.G43 (k + 1) avs H = some x) : fromPt Tryd.prog spec_l1Rd_nursery.E k spec_l1Rd_nursery.a (spec_l1Rd_nursery.G k) 1000 (bodyOf Tryd.prog 83) 43 avs H = some x := by
  unfold spec_l1Rd_nursery.G43 at h
  split at h
  · rw [← h]; exact spec_l1Rd_nursery.eq43 _ _ _ _ _ _ _ _ _ _
  · cases h
theorem spec_l1Rd_nursery.E_ok : EnvOk Tryd.prog spec_l1Rd_nursery.E := ⟨⟨spec_l1Rd_below.sound, callable_of (by kernel_rfl)⟩, ⟨spec_l1Rd_size.sound, callable_of (by kernel_rfl)⟩, ⟨spec_YoungAlloc.sound, callable_of (by kernel_rfl)⟩, ⟨spec_l1Rd_once.sound, callable_of (by kernel_rfl)⟩, ⟨spec_YoungSet.sound, callable_of (by kernel_rfl)⟩, trivial⟩
theorem spec_l1Rd_nursery.sound : Sound Tryd.prog 83 spec_l1Rd_nursery.s := by
  refine func_sound (f := spec_l1Rd_nursery.a) (G := spec_l1Rd_nursery.G) (fn := Tryd.f83) (body := bodyOf Tryd.prog 83) 1000 (by kernel_rfl) spec_l1Rd_nursery.E_ok Tryd.func83 (by kernel_rfl) (by kernel_rfl) (by kernel_rfl) (ptsOk_of (by kernel_rfl)) ?_ ?_ ?_ ?_
  · intro r H x h
    unfold spec_l1Rd_nursery.a at h
    simp only at h
    split at h
    · cases h; rfl
    · cases h
  · exact fun q avs H => pick1_none spec_l1Rd_nursery.G10_0 (pick1_none spec_l1Rd_nursery.G29_0 (pick1_none spec_l1Rd_nursery.G41_0 (pick1_none spec_l1Rd_nursery.G43_0 (rfl))))
  · intro k q pt avs H x _ h
    rcases pick1_some h with ⟨rfl, h⟩ | h
    · exact spec_l1Rd_nursery.G10_s _ h
    rcases pick1_some h with ⟨rfl, h⟩ | h
    · exact spec_l1Rd_nursery.G29_s _ h
    rcases pick1_some h with ⟨rfl, h⟩ | h
    · exact spec_l1Rd_nursery.G41_s _ h
    rcases pick1_some h with ⟨rfl, h⟩ | h
    · exact spec_l1Rd_nursery.G43_s _ h
    cases h
  · intro k avs H o h
    try dsimp only at h
    split at h
    · cases h; exact spec_l1Rd_nursery.eq _ _ _ _
    · cases h

def spec_l1Rd_word.p8 : Nat → List Int → Int → Int → Int → Option (List Int × Int × Int)
 | 0, _, _, _, _ => none
 | k + 1, h0_0, h0_1, x3, x4 => (if x4 < 8 then ((spec_l1Rd_next.f h0_0 h0_1).bind fun t1 => (spec_l1Rd_word.p8 k t1.1 t1.2.1 (orA .u64 (shlA .u64 x3 8) (IntKind.wrap .u64 t1.2.2)) (wrap64 (x4 + 1)))) else (some (h0_0, h0_1, x3)))
def spec_l1Rd_word.f (k : Nat) (a0_0 : List Int) (a0_1 : Int) : Option (List Int × Int × Int) := (spec_l1Rd_word.p8 k a0_0 a0_1 0 0)
def spec_l1Rd_word.a : FnA (List Int × Int × Int) := ⟨16, [.tmp 2], .val, [.box [.con (.int .u8), .val]], [⟨8, [0, 3, 4], [.box [], .val, .val], [.box [.con (.int .u8), .val]]⟩], fun x H => match x, H with
  | .v (.int .u64 r), [.box [.con (.int .u8) h0_0, .v (.int .i64 h0_1)]] => some (h0_0, h0_1, r)
  | _, _ => none⟩
def spec_l1Rd_word.s : Spec := mkS [.box [.con (.int .u8), .val]] (fun k avs H => match avs, H with
  | [.box 0 0], [.box [.con (.int .u8) a0_0, .v (.int .i64 a0_1)]] => some (spec_l1Rd_word.f k a0_0 a0_1)
  | _, _ => none) (fun r => (.v (.int .u64 r.2.2), [.box [.con (.int .u8) r.1, .v (.int .i64 r.2.1)]]))
def spec_l1Rd_word.E : Env := [((107, []), spec_l1Rd_next.s)]
def spec_l1Rd_word.G8 (k : Nat) (avs : List AV) (H : List HE) : Option (List Int × Int × Int) := match avs, H with
  | [.box 0 0, .v (.int .u64 x3), .v (.int .i64 x4)], [.box [.con (.int .u8) h0_0, .v (.int .i64 h0_1)]] => spec_l1Rd_word.p8 k h0_0 h0_1 x3 x4
  | _, _ => none
def spec_l1Rd_word.G (k p : Nat) (avs : List AV) (H : List HE) : Option (List Int × Int × Int) := (pick1 8 (spec_l1Rd_word.G8 k avs H) none p)
set_option maxRecDepth 100000 in
theorem spec_l1Rd_word.eq (k : Nat) (a0_0 : List Int) (a0_1 : Int) : fromTop Tryd.prog spec_l1Rd_word.E k spec_l1Rd_word.a (spec_l1Rd_word.G k) 1000 (bodyOf Tryd.prog 114) [.box 0 0] [.box [.con (.int .u8) a0_0, .v (.int .i64 a0_1)]] = spec_l1Rd_word.f k a0_0 a0_1 := by kernel_rfl
set_option maxRecDepth 100000 in
theorem spec_l1Rd_word.eq8 (k : Nat) (h0_0 : List Int) (h0_1 : Int) (x3 : Int) (x4 : Int) : fromPt Tryd.prog spec_l1Rd_word.E k spec_l1Rd_word.a (spec_l1Rd_word.G k) 1000 (bodyOf Tryd.prog 114) 8 [.box 0 0, .v (.int .u64 x3), .v (.int .i64 x4)] [.box [.con (.int .u8) h0_0, .v (.int .i64 h0_1)]] = spec_l1Rd_word.p8 (k + 1) h0_0 h0_1 x3 x4 := by kernel_rfl
theorem spec_l1Rd_word.G8_0 {avs : List AV} {H : List HE} : spec_l1Rd_word.G8 0 avs H = none := by unfold spec_l1Rd_word.G8; split <;> rfl
theorem spec_l1Rd_word.G8_s (k : Nat) {avs : List AV} {H : List HE} {x : List Int × Int × Int} (h : spec_l1Rd_word.G8 (k + 1) avs H = some x) : fromPt Tryd.prog spec_l1Rd_word.E k spec_l1Rd_word.a (spec_l1Rd_word.G k) 1000 (bodyOf Tryd.prog 114) 8 avs H = some x := by
  unfold spec_l1Rd_word.G8 at h
  split at h
  · rw [← h]; exact spec_l1Rd_word.eq8 _ _ _ _ _
  · cases h
theorem spec_l1Rd_word.E_ok : EnvOk Tryd.prog spec_l1Rd_word.E := ⟨⟨spec_l1Rd_next.sound, callable_of (by kernel_rfl)⟩, trivial⟩
theorem spec_l1Rd_word.sound : Sound Tryd.prog 114 spec_l1Rd_word.s := by
  refine func_sound (f := spec_l1Rd_word.a) (G := spec_l1Rd_word.G) (fn := Tryd.f114) (body := bodyOf Tryd.prog 114) 1000 (by kernel_rfl) spec_l1Rd_word.E_ok Tryd.func114 (by kernel_rfl) (by kernel_rfl) (by kernel_rfl) (ptsOk_of (by kernel_rfl)) ?_ ?_ ?_ ?_
  · intro r H x h
    unfold spec_l1Rd_word.a at h
    simp only at h
    split at h
    · cases h; rfl
    · cases h
  · exact fun q avs H => pick1_none spec_l1Rd_word.G8_0 (rfl)
  · intro k q pt avs H x _ h
    rcases pick1_some h with ⟨rfl, h⟩ | h
    · exact spec_l1Rd_word.G8_s _ h
    cases h
  · intro k avs H o h
    try dsimp only at h
    split at h
    · cases h; exact spec_l1Rd_word.eq _ _ _
    · cases h

def spec_l1Rd_near.f (k : Nat) (a0_0 : List Int) (a0_1 : Int) (a1 : Int) (a2 : Int) : Option (List Int × Int × Int) := ((spec_l1Rd_below.f a0_0 a0_1 8).bind fun t1 => (if t1.2.2 = 0 then (some (t1.1, t1.2.1, a1)) else (if t1.2.2 = 1 then (some (t1.1, t1.2.1, a2)) else (if a2 < a1 then (some (t1.1, t1.2.1, a1)) else ((spec_l1Rd_word.f k t1.1 t1.2.1).bind fun t2 => (if (IntKind.wrap .u64 (wrap64 ((wrap64 (a2 - a1)) + 1))) = 0 then none else (some (t2.1, t2.2.1, (wrap64 (a1 + (wrap64 (Int.tmod (shrA .u64 t2.2.2 1) (IntKind.wrap .u64 (wrap64 ((wrap64 (a2 - a1)) + 1)))))))))))))))
def spec_l1Rd_near.a : FnA (List Int × Int × Int) := ⟨31, [.tmp 6], .val, [.box [.con (.int .u8), .val]], [], fun x H => match x, H with
  | .v (.int .i64 r), [.box [.con (.int .u8) h0_0, .v (.int .i64 h0_1)]] => some (h0_0, h0_1, r)
  | _, _ => none⟩
def spec_l1Rd_near.s : Spec := mkS [.box [.con (.int .u8), .val], .val, .val] (fun k avs H => match avs, H with
  | [.box 0 0, .v (.int .i64 a1), .v (.int .i64 a2)], [.box [.con (.int .u8) a0_0, .v (.int .i64 a0_1)]] => some (spec_l1Rd_near.f k a0_0 a0_1 a1 a2)
  | _, _ => none) (fun r => (.v (.int .i64 r.2.2), [.box [.con (.int .u8) r.1, .v (.int .i64 r.2.1)]]))
def spec_l1Rd_near.E : Env := [((89, []), spec_l1Rd_below.s), ((114, []), spec_l1Rd_word.s)]
def spec_l1Rd_near.G (k p : Nat) (avs : List AV) (H : List HE) : Option (List Int × Int × Int) := none
set_option maxRecDepth 100000 in
theorem spec_l1Rd_near.eq (k : Nat) (a0_0 : List Int) (a0_1 : Int) (a1 : Int) (a2 : Int) : fromTop Tryd.prog spec_l1Rd_near.E k spec_l1Rd_near.a (spec_l1Rd_near.G k) 1000 (bodyOf Tryd.prog 103) [.box 0 0, .v (.int .i64 a1), .v (.int .i64 a2)] [.box [.con (.int .u8) a0_0, .v (.int .i64 a0_1)]] = spec_l1Rd_near.f k a0_0 a0_1 a1 a2 := by kernel_rfl
theorem spec_l1Rd_near.E_ok : EnvOk Tryd.prog spec_l1Rd_near.E := ⟨⟨spec_l1Rd_below.sound, callable_of (by kernel_rfl)⟩, ⟨spec_l1Rd_word.sound, callable_of (by kernel_rfl)⟩, trivial⟩
theorem spec_l1Rd_near.sound : Sound Tryd.prog 103 spec_l1Rd_near.s := by
  refine func_sound (f := spec_l1Rd_near.a) (G := spec_l1Rd_near.G) (fn := Tryd.f103) (body := bodyOf Tryd.prog 103) 1000 (by kernel_rfl) spec_l1Rd_near.E_ok Tryd.func103 (by kernel_rfl) (by kernel_rfl) (by kernel_rfl) (ptsOk_of (by kernel_rfl)) ?_ ?_ ?_ ?_
  · intro r H x h
    unfold spec_l1Rd_near.a at h
    simp only at h
    split at h
    · cases h; rfl
    · cases h
  · intro q avs H; rfl
  · intro k q pt avs H x _ h; cases h
  · intro k avs H o h
    try dsimp only at h
    split at h
    · cases h; exact spec_l1Rd_near.eq _ _ _ _ _
    · cases h

def spec_l1Rd_off.f (k : Nat) (a0_0 : List Int) (a0_1 : Int) (a1 : Int) (a2 : Int) : Option (List Int × Int × Int) := ((spec_l1Rd_once.f a0_0 a0_1 24).bind fun t1 => (if t1.2.2 = true then ((spec_l1Rd_below.f t1.1 t1.2.1 4).bind fun t2 => (if 0 ≤ t2.2.2 then (if t2.2.2 < 4 then (some (t2.1, t2.2.1, (rd ([(wrap64 (a1 - 1)), (wrap64 (a2 + 1)), (-9223372036854775808), 9223372036854775807] : List Int) t2.2.2))) else none) else none)) else ((spec_l1Rd_near.f k t1.1 t1.2.1 a1 a2).bind fun t3 => (some (t3.1, t3.2.1, t3.2.2)))))
def spec_l1Rd_off.a : FnA (List Int × Int × Int) := ⟨22, [.tmp 6], .val, [.box [.con (.int .u8), .val]], [], fun x H => match x, H with
  | .v (.int .i64 r), [.box [.con (.int .u8) h0_0, .v (.int .i64 h0_1)]] => some (h0_0, h0_1, r)
  | _, _ => none⟩
def spec_l1Rd_off.s : Spec := mkS [.box [.con (.int .u8), .val], .val, .val] (fun k avs H => match avs, H with
  | [.box 0 0, .v (.int .i64 a1), .v (.int .i64 a2)], [.box [.con (.int .u8) a0_0, .v (.int .i64 a0_1)]] => some (spec_l1Rd_off.f k a0_0 a0_1 a1 a2)
  | _, _ => none) (fun r => (.v (.int .i64 r.2.2), [.box [.con (.int .u8) r.1, .v (.int .i64 r.2.1)]]))
def spec_l1Rd_off.E : Env := [((90, []), spec_l1Rd_once.s), ((89, []), spec_l1Rd_below.s), ((103, []), spec_l1Rd_near.s)]
def spec_l1Rd_off.G (k p : Nat) (avs : List AV) (H : List HE) : Option (List Int × Int × Int) := none
set_option maxRecDepth 100000 in
theorem spec_l1Rd_off.eq (k : Nat) (a0_0 : List Int) (a0_1 : Int) (a1 : Int) (a2 : Int) : fromTop Tryd.prog spec_l1Rd_off.E k spec_l1Rd_off.a (spec_l1Rd_off.G k) 1000 (bodyOf Tryd.prog 84) [.box 0 0, .v (.int .i64 a1), .v (.int .i64 a2)] [.box [.con (.int .u8) a0_0, .v (.int .i64 a0_1)]] = spec_l1Rd_off.f k a0_0 a0_1 a1 a2 := by kernel_rfl
theorem spec_l1Rd_off.E_ok : EnvOk Tryd.prog spec_l1Rd_off.E := ⟨⟨spec_l1Rd_once.sound, callable_of (by kernel_rfl)⟩, ⟨spec_l1Rd_below.sound, callable_of (by kernel_rfl)⟩, ⟨spec_l1Rd_near.sound, callable_of (by kernel_rfl)⟩, trivial⟩
theorem spec_l1Rd_off.sound : Sound Tryd.prog 84 spec_l1Rd_off.s := by
  refine func_sound (f := spec_l1Rd_off.a) (G := spec_l1Rd_off.G) (fn := Tryd.f84) (body := bodyOf Tryd.prog 84) 1000 (by kernel_rfl) spec_l1Rd_off.E_ok Tryd.func84 (by kernel_rfl) (by kernel_rfl) (by kernel_rfl) (ptsOk_of (by kernel_rfl)) ?_ ?_ ?_ ?_
  · intro r H x h
    unfold spec_l1Rd_off.a at h
    simp only at h
    split at h
    · cases h; rfl
    · cases h
  · intro q avs H; rfl
  · intro k q pt avs H x _ h; cases h
  · intro k avs H o h
    try dsimp only at h
    split at h
    · cases h; exact spec_l1Rd_off.eq _ _ _ _ _
    · cases h

def spec_l1Rd_ref.f (k : Nat) (a0_0 : List Int) (a0_1 : Int) : Option (List Int × Int × Int) := ((spec_l1Rd_below.f a0_0 a0_1 12).bind fun t1 => (if t1.2.2 = 0 then ((spec_l1Rd_off.f k t1.1 t1.2.1 0 254).bind fun t2 => (some (t2.1, t2.2.1, t2.2.2))) else (if t1.2.2 = 1 then ((spec_l1Rd_off.f k t1.1 t1.2.1 0 799).bind fun t3 => (some (t3.1, t3.2.1, t3.2.2))) else (if t1.2.2 = 2 then (some (t1.1, t1.2.1, 0)) else (if t1.2.2 = 3 then (some (t1.1, t1.2.1, 0)) else (if t1.2.2 = 4 then ((spec_l1Rd_below.f t1.1 t1.2.1 20).bind fun t4 => (some (t4.1, t4.2.1, (wrap64 (2 * (wrap64 (1 + t4.2.2))))))) else (if t1.2.2 = 5 then ((spec_l1Rd_below.f t1.1 t1.2.1 20).bind fun t5 => (some (t5.1, t5.2.1, (wrap64 (2 * (wrap64 (1 + t5.2.2))))))) else (if t1.2.2 = 6 then ((spec_l1Rd_below.f t1.1 t1.2.1 20).bind fun t6 => (some (t6.1, t6.2.1, (wrap64 (2 * (wrap64 (1 + t6.2.2))))))) else ((spec_l1Rd_below.f t1.1 t1.2.1 20).bind fun t7 => (some (t7.1, t7.2.1, (wrap64 ((wrap64 (2 * t7.2.2)) + 1)))))))))))))
def spec_l1Rd_ref.a : FnA (List Int × Int × Int) := ⟨28, [.tmp 2], .val, [.box [.con (.int .u8), .val]], [], fun x H => match x, H with
  | .v (.int .i64 r), [.box [.con (.int .u8) h0_0, .v (.int .i64 h0_1)]] => some (h0_0, h0_1, r)
  | _, _ => none⟩
def spec_l1Rd_ref.s : Spec := mkS [.box [.con (.int .u8), .val]] (fun k avs H => match avs, H with
  | [.box 0 0], [.box [.con (.int .u8) a0_0, .v (.int .i64 a0_1)]] => some (spec_l1Rd_ref.f k a0_0 a0_1)
  | _, _ => none) (fun r => (.v (.int .i64 r.2.2), [.box [.con (.int .u8) r.1, .v (.int .i64 r.2.1)]]))
def spec_l1Rd_ref.E : Env := [((89, []), spec_l1Rd_below.s), ((84, []), spec_l1Rd_off.s)]
def spec_l1Rd_ref.G (k p : Nat) (avs : List AV) (H : List HE) : Option (List Int × Int × Int) := none
set_option maxRecDepth 100000 in
theorem spec_l1Rd_ref.eq (k : Nat) (a0_0 : List Int) (a0_1 : Int) : fromTop Tryd.prog spec_l1Rd_ref.E k spec_l1Rd_ref.a (spec_l1Rd_ref.G k) 1000 (bodyOf Tryd.prog 104) [.box 0 0] [.box [.con (.int .u8) a0_0, .v (.int .i64 a0_1)]] = spec_l1Rd_ref.f k a0_0 a0_1 := by kernel_rfl
theorem spec_l1Rd_ref.E_ok : EnvOk Tryd.prog spec_l1Rd_ref.E := ⟨⟨spec_l1Rd_below.sound, callable_of (by kernel_rfl)⟩, ⟨spec_l1Rd_off.sound, callable_of (by kernel_rfl)⟩, trivial⟩
theorem spec_l1Rd_ref.sound : Sound Tryd.prog 104 spec_l1Rd_ref.s := by
  refine func_sound (f := spec_l1Rd_ref.a) (G := spec_l1Rd_ref.G) (fn := Tryd.f104) (body := bodyOf Tryd.prog 104) 1000 (by kernel_rfl) spec_l1Rd_ref.E_ok Tryd.func104 (by kernel_rfl) (by kernel_rfl) (by kernel_rfl) (ptsOk_of (by kernel_rfl)) ?_ ?_ ?_ ?_
  · intro r H x h
    unfold spec_l1Rd_ref.a at h
    simp only at h
    split at h
    · cases h; rfl
    · cases h
  · intro q avs H; rfl
  · intro k q pt avs H x _ h; cases h
  · intro k avs H o h
    try dsimp only at h
    split at h
    · cases h; exact spec_l1Rd_ref.eq _ _ _
    · cases h

def spec_l1Rd_youngRef.f (k : Nat) (a0_0 : List Int) (a0_1 : Int) (a1 : List ByteArray) (a2_0 : Int) (a2_1 : List Int) : Option (List Int × Int × List Int × Int) := ((spec_Starts.f k a1 a2_0 a2_1).bind fun t1 => (if (t1.length : Int) = 0 then ((spec_l1Rd_ref.f k a0_0 a0_1).bind fun t2 => (some (t2.1, t2.2.1, a2_1, t2.2.2))) else ((spec_l1Rd_once.f a0_0 a0_1 8).bind fun t3 => (if t3.2.2 = true then ((spec_l1Rd_ref.f k t3.1 t3.2.1).bind fun t4 => (some (t4.1, t4.2.1, a2_1, t4.2.2))) else ((spec_l1Rd_below.f t3.1 t3.2.1 (t1.length : Int)).bind fun t5 => (if 0 ≤ t5.2.2 then (if t5.2.2 < (t1.length : Int) then (some (t5.1, t5.2.1, a2_1, (wrap64 ((wrap64 (2 * (rd t1 t5.2.2))) + 1)))) else none) else none))))))
def spec_l1Rd_youngRef.a : FnA (List Int × Int × List Int × Int) := ⟨29, [.tmp 6], .val, [.box [.con (.int .u8), .val], .keep], [], fun x H => match x, H with
  | .v (.int .i64 r), [.box [.con (.int .u8) h0_0, .v (.int .i64 h0_1)], .row 2 (.int .i64) h1] => some (h0_0, h0_1, h1, r)
  | _, _ => none⟩
def spec_l1Rd_youngRef.s : Spec := mkS [.box [.con (.int .u8), .val], .con .str, .agg [.val, .row 2 (.int .i64)]] (fun k avs H => match avs, H with
  | [.box 0 0, .con .str a1, .agg [.v (.int .i64 a2_0), .own 1]], [.box [.con (.int .u8) a0_0, .v (.int .i64 a0_1)], .row 2 (.int .i64) a2_1] => some (spec_l1Rd_youngRef.f k a0_0 a0_1 a1 a2_0 a2_1)
  | _, _ => none) (fun r => (.v (.int .i64 r.2.2.2), [.box [.con (.int .u8) r.1, .v (.int .i64 r.2.1)], .row 2 (.int .i64) r.2.2.1]))
def spec_l1Rd_youngRef.E : Env := [((24, []), spec_Starts.s), ((104, []), spec_l1Rd_ref.s), ((90, []), spec_l1Rd_once.s), ((89, []), spec_l1Rd_below.s)]
def spec_l1Rd_youngRef.G (k p : Nat) (avs : List AV) (H : List HE) : Option (List Int × Int × List Int × Int) := none
set_option maxRecDepth 100000 in
theorem spec_l1Rd_youngRef.eq (k : Nat) (a0_0 : List Int) (a0_1 : Int) (a1 : List ByteArray) (a2_0 : Int) (a2_1 : List Int) : fromTop Tryd.prog spec_l1Rd_youngRef.E k spec_l1Rd_youngRef.a (spec_l1Rd_youngRef.G k) 1000 (bodyOf Tryd.prog 85) [.box 0 0, .con .str a1, .agg [.v (.int .i64 a2_0), .own 1]] [.box [.con (.int .u8) a0_0, .v (.int .i64 a0_1)], .row 2 (.int .i64) a2_1] = spec_l1Rd_youngRef.f k a0_0 a0_1 a1 a2_0 a2_1 := by kernel_rfl
theorem spec_l1Rd_youngRef.E_ok : EnvOk Tryd.prog spec_l1Rd_youngRef.E := ⟨⟨spec_Starts.sound, callable_of (by kernel_rfl)⟩, ⟨spec_l1Rd_ref.sound, callable_of (by kernel_rfl)⟩, ⟨spec_l1Rd_once.sound, callable_of (by kernel_rfl)⟩, ⟨spec_l1Rd_below.sound, callable_of (by kernel_rfl)⟩, trivial⟩
theorem spec_l1Rd_youngRef.sound : Sound Tryd.prog 85 spec_l1Rd_youngRef.s := by
  refine func_sound (f := spec_l1Rd_youngRef.a) (G := spec_l1Rd_youngRef.G) (fn := Tryd.f85) (body := bodyOf Tryd.prog 85) 1000 (by kernel_rfl) spec_l1Rd_youngRef.E_ok Tryd.func85 (by kernel_rfl) (by kernel_rfl) (by kernel_rfl) (ptsOk_of (by kernel_rfl)) ?_ ?_ ?_ ?_
  · intro r H x h
    unfold spec_l1Rd_youngRef.a at h
    simp only at h
    split at h
    · cases h; rfl
    · cases h
  · intro q avs H; rfl
  · intro k q pt avs H x _ h; cases h
  · intro k avs H o h
    try dsimp only at h
    split at h
    · cases h; exact spec_l1Rd_youngRef.eq _ _ _ _ _ _
    · cases h

def spec_l1Rd_hurtNursery.f (k : Nat) (a0_0 : List Int) (a0_1 : Int) (a1_0 : Int) (a1_1 : List Int) : Option (List Int × Int × Int × List Int) := ((spec_l1Rd_below.f a0_0 a0_1 24).bind fun t1 => (if t1.2.2 = 0 then ((spec_l1Rd_off.f k t1.1 t1.2.1 2 400).bind fun t2 => (some (t2.1, t2.2.1, t2.2.2, a1_1))) else (if t1.2.2 = 1 then ((spec_l1Rd_below.f t1.1 t1.2.1 2).bind fun t3 => (some (t3.1, t3.2.1, (wrap64 ((a1_1.length : Int) - t3.2.2)), a1_1))) else (if t1.2.2 = 2 then (if (a1_1.length : Int) > 0 then ((spec_l1Rd_below.f t1.1 t1.2.1 (a1_1.length : Int)).bind fun t4 => ((spec_l1Rd_off.f k t4.1 t4.2.1 0 12).bind fun t5 => (if 0 ≤ t4.2.2 then (if t4.2.2 < (a1_1.length : Int) then (some (t5.1, t5.2.1, a1_0, (a1_1.set t4.2.2.toNat t5.2.2))) else none) else none))) else (some (t1.1, t1.2.1, a1_0, a1_1))) else (if t1.2.2 = 3 then ((spec_l1Rd_off.f k t1.1 t1.2.1 0 8).bind fun t6 => (if a1_1.length + 1 ≤ 17592186044416 then (some (t6.1, t6.2.1, a1_0, (a1_1 ++ ([t6.2.2] : List Int)))) else none)) else (some (t1.1, t1.2.1, a1_0, a1_1)))))))
def spec_l1Rd_hurtNursery.a : FnA (List Int × Int × Int × List Int) := ⟨47, [.cell 4 30], .agg [.val, .row 2 (.int .i64)], [.box [.con (.int .u8), .val], .drop], [], fun x H => match x, H with
  | .agg [.v (.int .i64 r_0), .own 2], [.box [.con (.int .u8) h0_0, .v (.int .i64 h0_1)], .gone, .row 2 (.int .i64) r_1] => some (h0_0, h0_1, r_0, r_1)
  | _, _ => none⟩
def spec_l1Rd_hurtNursery.s : Spec := mkS [.box [.con (.int .u8), .val], .agg [.val, .row 2 (.int .i64)]] (fun k avs H => match avs, H with
  | [.box 0 0, .agg [.v (.int .i64 a1_0), .own 1]], [.box [.con (.int .u8) a0_0, .v (.int .i64 a0_1)], .row 2 (.int .i64) a1_1] => some (spec_l1Rd_hurtNursery.f k a0_0 a0_1 a1_0 a1_1)
  | _, _ => none) (fun r => (.agg [.v (.int .i64 r.2.2.1), .own 2], [.box [.con (.int .u8) r.1, .v (.int .i64 r.2.1)], .gone, .row 2 (.int .i64) r.2.2.2]))
def spec_l1Rd_hurtNursery.E : Env := [((89, []), spec_l1Rd_below.s), ((84, []), spec_l1Rd_off.s)]
def spec_l1Rd_hurtNursery.G (k p : Nat) (avs : List AV) (H : List HE) : Option (List Int × Int × Int × List Int) := none
set_option maxRecDepth 100000 in
theorem spec_l1Rd_hurtNursery.eq (k : Nat) (a0_0 : List Int) (a0_1 : Int) (a1_0 : Int) (a1_1 : List Int) : fromTop Tryd.prog spec_l1Rd_hurtNursery.E k spec_l1Rd_hurtNursery.a (spec_l1Rd_hurtNursery.G k) 1000 (bodyOf Tryd.prog 82) [.box 0 0, .agg [.v (.int .i64 a1_0), .own 1]] [.box [.con (.int .u8) a0_0, .v (.int .i64 a0_1)], .row 2 (.int .i64) a1_1] = spec_l1Rd_hurtNursery.f k a0_0 a0_1 a1_0 a1_1 := by kernel_rfl
theorem spec_l1Rd_hurtNursery.E_ok : EnvOk Tryd.prog spec_l1Rd_hurtNursery.E := ⟨⟨spec_l1Rd_below.sound, callable_of (by kernel_rfl)⟩, ⟨spec_l1Rd_off.sound, callable_of (by kernel_rfl)⟩, trivial⟩
theorem spec_l1Rd_hurtNursery.sound : Sound Tryd.prog 82 spec_l1Rd_hurtNursery.s := by
  refine func_sound (f := spec_l1Rd_hurtNursery.a) (G := spec_l1Rd_hurtNursery.G) (fn := Tryd.f82) (body := bodyOf Tryd.prog 82) 1000 (by kernel_rfl) spec_l1Rd_hurtNursery.E_ok Tryd.func82 (by kernel_rfl) (by kernel_rfl) (by kernel_rfl) (ptsOk_of (by kernel_rfl)) ?_ ?_ ?_ ?_
  · intro r H x h
    unfold spec_l1Rd_hurtNursery.a at h
    simp only at h
    split at h
    · cases h; rfl
    · cases h
  · intro q avs H; rfl
  · intro k q pt avs H x _ h; cases h
  · intro k avs H o h
    try dsimp only at h
    split at h
    · cases h; exact spec_l1Rd_hurtNursery.eq _ _ _ _ _
    · cases h

def spec_DrawYoungSet.f (k : Nat) (a0 : List Int) : Option (List ByteArray × Int × List Int × Int × Int × Int) := ((spec_l1Open.f a0).bind fun t1 => ((spec_l1Rd_types.f k t1.1 t1.2).bind fun t2 => ((spec_l1Rd_nursery.f k t2.1 t2.2.1 t2.2.2).bind fun t3 => ((spec_l1Rd_youngRef.f k t3.1 t3.2.1 t2.2.2 t3.2.2.1 t3.2.2.2).bind fun t4 => ((spec_l1Rd_youngRef.f k t4.1 t4.2.1 t2.2.2 t3.2.2.1 t4.2.2.1).bind fun t5 => ((spec_l1Rd_hurtNursery.f k t5.1 t5.2.1 t3.2.2.1 t5.2.2.1).bind fun t6 => ((spec_l1Rd_off.f k t6.1 t6.2.1 0 2).bind fun t7 => (some (t2.2.2, t6.2.2.1, t6.2.2.2, t4.2.2.2, t7.2.2, t5.2.2.2)))))))))
def spec_DrawYoungSet.a : FnA (List ByteArray × Int × List Int × Int × Int × Int) := ⟨35, [.tmp 2, .cell 3 30, .tmp 4, .tmp 5, .tmp 6], .tup [.con .str, .agg [.val, .row 2 (.int .i64)], .val, .val, .val], [], [], fun x H => match x, H with
  | .tup [.con .str r_0, .agg [.v (.int .i64 r_1_0), .own 0], .v (.int .i64 r_2), .v (.int .i64 r_3), .v (.int .i64 r_4)], [.row 2 (.int .i64) r_1_1] => some (r_0, r_1_0, r_1_1, r_2, r_3, r_4)
  | _, _ => none⟩
def spec_DrawYoungSet.s : Spec := mkS [.con (.int .u8)] (fun k avs H => match avs, H with
  | [.con (.int .u8) a0], [] => some (spec_DrawYoungSet.f k a0)
  | _, _ => none) (fun r => (.tup [.con .str r.1, .agg [.v (.int .i64 r.2.1), .own 0], .v (.int .i64 r.2.2.2.1), .v (.int .i64 r.2.2.2.2.1), .v (.int .i64 r.2.2.2.2.2)], [.row 2 (.int .i64) r.2.2.1]))
def spec_DrawYoungSet.E : Env := [((80, []), spec_l1Open.s), ((81, []), spec_l1Rd_types.s), ((83, []), spec_l1Rd_nursery.s), ((85, []), spec_l1Rd_youngRef.s), ((82, []), spec_l1Rd_hurtNursery.s), ((84, []), spec_l1Rd_off.s)]
def spec_DrawYoungSet.G (k p : Nat) (avs : List AV) (H : List HE) : Option (List ByteArray × Int × List Int × Int × Int × Int) := none
set_option maxRecDepth 100000 in
theorem spec_DrawYoungSet.eq (k : Nat) (a0 : List Int) : fromTop Tryd.prog spec_DrawYoungSet.E k spec_DrawYoungSet.a (spec_DrawYoungSet.G k) 1000 (bodyOf Tryd.prog 49) [.con (.int .u8) a0] [] = spec_DrawYoungSet.f k a0 := by kernel_rfl
theorem spec_DrawYoungSet.E_ok : EnvOk Tryd.prog spec_DrawYoungSet.E := ⟨⟨spec_l1Open.sound, callable_of (by kernel_rfl)⟩, ⟨spec_l1Rd_types.sound, callable_of (by kernel_rfl)⟩, ⟨spec_l1Rd_nursery.sound, callable_of (by kernel_rfl)⟩, ⟨spec_l1Rd_youngRef.sound, callable_of (by kernel_rfl)⟩, ⟨spec_l1Rd_hurtNursery.sound, callable_of (by kernel_rfl)⟩, ⟨spec_l1Rd_off.sound, callable_of (by kernel_rfl)⟩, trivial⟩
theorem spec_DrawYoungSet.sound : Sound Tryd.prog 49 spec_DrawYoungSet.s := by
  refine func_sound (f := spec_DrawYoungSet.a) (G := spec_DrawYoungSet.G) (fn := Tryd.f49) (body := bodyOf Tryd.prog 49) 1000 (by kernel_rfl) spec_DrawYoungSet.E_ok Tryd.func49 (by kernel_rfl) (by kernel_rfl) (by kernel_rfl) (ptsOk_of (by kernel_rfl)) ?_ ?_ ?_ ?_
  · intro r H x h
    unfold spec_DrawYoungSet.a at h
    simp only at h
    split at h
    · cases h; rfl
    · cases h
  · intro q avs H; rfl
  · intro k q pt avs H x _ h; cases h
  · intro k avs H o h
    try dsimp only at h
    split at h
    · cases h; exact spec_DrawYoungSet.eq _ _
    · cases h

def impl_size_string.f (a0 : List ByteArray) : Option (Int) := (some (a0.length : Int))
def impl_size_string.a : FnA (Int) := ⟨5, [.tmp 2], .val, [], [], fun x H => match x, H with
  | .v (.int .i64 r), [] => some r
  | _, _ => none⟩
def impl_size_string.s : Spec := mkS [.con .str] (fun k avs H => match avs, H with
  | [.con .str a0], [] => some (impl_size_string.f a0)
  | _, _ => none) (fun r => (.v (.int .i64 r), []))
def impl_size_string.E : Env := []
def impl_size_string.G (k p : Nat) (avs : List AV) (H : List HE) : Option (Int) := none
set_option maxRecDepth 100000 in
theorem impl_size_string.eq (k : Nat) (a0 : List ByteArray) : fromTop Tryd.prog impl_size_string.E k impl_size_string.a (impl_size_string.G k) 1000 (bodyOf Tryd.prog 70) [.con .str a0] [] = impl_size_string.f a0 := by kernel_rfl
theorem impl_size_string.E_ok : EnvOk Tryd.prog impl_size_string.E := trivial
theorem impl_size_string.sound : Sound Tryd.prog 70 impl_size_string.s := by
  refine func_sound (f := impl_size_string.a) (G := impl_size_string.G) (fn := Tryd.f70) (body := bodyOf Tryd.prog 70) 1000 (by kernel_rfl) impl_size_string.E_ok Tryd.func70 (by kernel_rfl) (by kernel_rfl) (by kernel_rfl) (ptsOk_of (by kernel_rfl)) ?_ ?_ ?_ ?_
  · intro r H x h
    unfold impl_size_string.a at h
    simp only at h
    split at h
    · cases h; rfl
    · cases h
  · intro q avs H; rfl
  · intro k q pt avs H x _ h; cases h
  · intro k avs H o h
    try dsimp only at h
    split at h
    · cases h; exact impl_size_string.eq _ _
    · cases h

def impl_within.f (a0 : Int) (a1 : Int) (a2 : Int) : Option (Bool) := (if a0 ≥ a1 then (some (decide (a0 ≤ a2))) else (some false))
def impl_within.a : FnA (Bool) := ⟨15, [.tmp 6], .bool, [], [], fun x H => match x, H with
  | .bs false r, [] => some r
  | _, _ => none⟩
def impl_within.s : Spec := mkS [.val, .val, .val] (fun k avs H => match avs, H with
  | [.v (.int .i64 a0), .v (.int .i64 a1), .v (.int .i64 a2)], [] => some (impl_within.f a0 a1 a2)
  | _, _ => none) (fun r => (.bs false r, []))
def impl_within.E : Env := []
def impl_within.G (k p : Nat) (avs : List AV) (H : List HE) : Option (Bool) := none
set_option maxRecDepth 100000 in
theorem impl_within.eq (k : Nat) (a0 : Int) (a1 : Int) (a2 : Int) : fromTop Tryd.prog impl_within.E k impl_within.a (impl_within.G k) 1000 (bodyOf Tryd.prog 69) [.v (.int .i64 a0), .v (.int .i64 a1), .v (.int .i64 a2)] [] = impl_within.f a0 a1 a2 := by kernel_rfl
theorem impl_within.E_ok : EnvOk Tryd.prog impl_within.E := trivial
theorem impl_within.sound : Sound Tryd.prog 69 impl_within.s := by
  refine func_sound (f := impl_within.a) (G := impl_within.G) (fn := Tryd.f69) (body := bodyOf Tryd.prog 69) 1000 (by kernel_rfl) impl_within.E_ok Tryd.func69 (by kernel_rfl) (by kernel_rfl) (by kernel_rfl) (ptsOk_of (by kernel_rfl)) ?_ ?_ ?_ ?_
  · intro r H x h
    unfold impl_within.a at h
    simp only at h
    split at h
    · cases h; rfl
    · cases h
  · intro q avs H; rfl
  · intro k q pt avs H x _ h; cases h
  · intro k avs H o h
    try dsimp only at h
    split at h
    · cases h; exact impl_within.eq _ _ _ _
    · cases h

def strings_Trim.f (a0 a1 : ByteArray) : Option ByteArray :=
  if a0.size ≤ 9223372036854775807 then (if a1.size ≤ 1000 then (if a1.data.toList.all (fun b => decide (b.toNat < 128)) = true then some ⟨(Lib.trimS a0.data.toList a1.data.toList).toArray⟩ else none) else none) else none
def strings_Trim.s : Spec := mkS [.val, .val] (fun _ avs H => match avs, H with
  | [.v (.string a0), .v (.string a1)], [] => some (strings_Trim.f a0 a1)
  | _, _ => none) (fun r => (.v (.string r), []))
theorem strings_Trim.sound : Sound Tryd.prog 116 strings_Trim.s := by
  refine sound_plain (emb := fun r => .v (.string r)) ?_
  intro k avs H o x h hx
  split at h
  case h_2 => cases h
  rename_i a0 a1
  cases h
  refine ⟨rfl, fun M w ρ hp vals hr => ?_⟩
  obtain ⟨v0, q0, rfl, rfl, v1, q1, rfl, rfl, rfl⟩ := hr
  unfold strings_Trim.f at hx
  split at hx
  case isFalse => cases hx
  rename_i h0
  split at hx
  case isFalse => cases hx
  rename_i h1
  split at hx
  case isFalse => cases hx
  rename_i h2
  cases hx
  refine (Go.Proofs.Any.strings_Trim_laid Go.Proofs.Tryd.lays160 (by kernel_rfl) a0 a1 w h0 (by omega) (Go.Proofs.ascii_of_all h2)).mono ?_
  rintro e w' ⟨rfl, hb⟩
  exact ⟨_, rfl, hb, fun _ _ _ _ => rfl⟩

def impl_isType.f (a0 : ByteArray) : Option (Bool) := ((impl_within.f (a0.size : Int) 1 23).bind fun t1 => (if t1 = true then ((strings_Trim.f a0 (⟨#[105, 114]⟩ : ByteArray)).bind fun t2 => (some (decide (t2.toList = (⟨#[]⟩ : ByteArray).toList)))) else (some false)))
def impl_isType.a : FnA (Bool) := ⟨11, [.tmp 2], .bool, [], [], fun x H => match x, H with
  | .bs false r, [] => some r
  | _, _ => none⟩
def impl_isType.s : Spec := mkS [.val] (fun k avs H => match avs, H with
  | [.v (.string a0)], [] => some (impl_isType.f a0)
  | _, _ => none) (fun r => (.bs false r, []))
def impl_isType.E : Env := [((69, []), impl_within.s), ((116, []), strings_Trim.s)]
def impl_isType.G (k p : Nat) (avs : List AV) (H : List HE) : Option (Bool) := none
set_option maxRecDepth 100000 in
theorem impl_isType.eq (k : Nat) (a0 : ByteArray) : fromTop Tryd.prog impl_isType.E k impl_isType.a (impl_isType.G k) 1000 (bodyOf Tryd.prog 111) [.v (.string a0)] [] = impl_isType.f a0 := by kernel_rfl
theorem impl_isType.E_ok : EnvOk Tryd.prog impl_isType.E := ⟨⟨impl_within.sound, callable_of (by kernel_rfl)⟩, ⟨strings_Trim.sound, callable_of (by kernel_rfl)⟩, trivial⟩
theorem impl_isType.sound : Sound Tryd.prog 111 impl_isType.s := by
  refine func_sound (f := impl_isType.a) (G := impl_isType.G) (fn := Tryd.f111) (body := bodyOf Tryd.prog 111) 1000 (by kernel_rfl) impl_isType.E_ok Tryd.func111 (by kernel_rfl) (by kernel_rfl) (by kernel_rfl) (ptsOk_of (by kernel_rfl)) ?_ ?_ ?_ ?_
  · intro r H x h
    unfold impl_isType.a at h
    simp only at h
    split at h
    · cases h; rfl
    · cases h
  · intro q avs H; rfl
  · intro k q pt avs H x _ h; cases h
  · intro k avs H o h
    try dsimp only at h
    split at h
    · cases h; exact impl_isType.eq _ _
    · cases h

def impl_TypesOk_1.f (a0 : ByteArray) : Option (Bool) := ((impl_isType.f a0).bind fun t1 => (some (!t1)))
def impl_TypesOk_1.a : FnA (Bool) := ⟨6, [.tmp 2], .bool, [], [], fun x H => match x, H with
  | .bs false r, [] => some r
  | _, _ => none⟩
def impl_TypesOk_1.s : Spec := mkS [.val] (fun k avs H => match avs, H with
  | [.v (.string a0)], [] => some (impl_TypesOk_1.f a0)
  | _, _ => none) (fun r => (.bs false r, []))
def impl_TypesOk_1.E : Env := [((111, []), impl_isType.s)]
def impl_TypesOk_1.G (k p : Nat) (avs : List AV) (H : List HE) : Option (Bool) := none
set_option maxRecDepth 100000 in
theorem impl_TypesOk_1.eq (k : Nat) (a0 : ByteArray) : fromTop Tryd.prog impl_TypesOk_1.E k impl_TypesOk_1.a (impl_TypesOk_1.G k) 1000 (bodyOf Tryd.prog 110) [.v (.string a0)] [] = impl_TypesOk_1.f a0 := by kernel_rfl
theorem impl_TypesOk_1.E_ok : EnvOk Tryd.prog impl_TypesOk_1.E := ⟨⟨impl_isType.sound, callable_of (by kernel_rfl)⟩, trivial⟩
theorem impl_TypesOk_1.sound : Sound Tryd.prog 110 impl_TypesOk_1.s := by
  refine func_sound (f := impl_TypesOk_1.a) (G := impl_TypesOk_1.G) (fn := Tryd.f110) (body := bodyOf Tryd.prog 110) 1000 (by kernel_rfl) impl_TypesOk_1.E_ok Tryd.func110 (by kernel_rfl) (by kernel_rfl) (by kernel_rfl) (ptsOk_of (by kernel_rfl)) ?_ ?_ ?_ ?_
  · intro r H x h
    unfold impl_TypesOk_1.a at h
    simp only at h
    split at h
    · cases h; rfl
    · cases h
  · intro q avs H; rfl
  · intro k q pt avs H x _ h; cases h
  · intro k avs H o h
    try dsimp only at h
    split at h
    · cases h; exact impl_TypesOk_1.eq _ _
    · cases h

def slices_IndexFunc_string_at_impl_TypesOk_1.p6 : Nat → List ByteArray → Int → Int → Option (Int)
 | 0, _, _, _ => none
 | k + 1, x0, x7, x8 => (if x8 < x7 then (if 0 ≤ x8 then (if x8 < (x0.length : Int) then ((impl_TypesOk_1.f (rdOf ByteArray.empty x0 x8)).bind fun t1 => (if t1 = true then (some x8) else (slices_IndexFunc_string_at_impl_TypesOk_1.p6 k x0 x7 (wrap64 (x8 + 1))))) else none) else none) else (some (-1)))
def slices_IndexFunc_string_at_impl_TypesOk_1.f (k : Nat) (a0 : List ByteArray) : Option (Int) := (slices_IndexFunc_string_at_impl_TypesOk_1.p6 k a0 (a0.length : Int) 0)
def slices_IndexFunc_string_at_impl_TypesOk_1.a : FnA (Int) := ⟨19, [.tmp 4], .val, [], [⟨6, [0, 1, 7, 8], [.con .str, .fn 110 [], .val, .val], []⟩], fun x H => match x, H with
  | .v (.int .i64 r), [] => some r
  | _, _ => none⟩
def slices_IndexFunc_string_at_impl_TypesOk_1.s : Spec := mkS [.con .str, .fn 110 []] (fun k avs H => match avs, H with
  | [.con .str a0, .fn 110 []], [] => some (slices_IndexFunc_string_at_impl_TypesOk_1.f k a0)
  | _, _ => none) (fun r => (.v (.int .i64 r), []))
def slices_IndexFunc_string_at_impl_TypesOk_1.E : Env := [((110, []), impl_TypesOk_1.s)]
def slices_IndexFunc_string_at_impl_TypesOk_1.G6 (k : Nat) (avs : List AV) (H : List HE) : Option (Int) := match avs, H with
  | [.con .str x0, .fn 110 [], .v (.int .i64 x7), .v (.int .i64 x8)], [] => slices_IndexFunc_string_at_impl_TypesOk_1.p6 k x0 x7 x8
  | _, _ => none
def slices_IndexFunc_string_at_impl_TypesOk_1.G (k p : Nat) (avs : List AV) (H : List HE) : Option (Int) := (pick1 6 (slices_IndexFunc_string_at_impl_TypesOk_1.G6 k avs H) none p)
set_option maxRecDepth 100000 in
theorem slices_IndexFunc_string_at_impl_TypesOk_1.eq (k : Nat) (a0 : List ByteArray) : fromTop Tryd.prog slices_IndexFunc_string_at_impl_TypesOk_1.E k slices_IndexFunc_string_at_impl_TypesOk_1.a (slices_IndexFunc_string_at_impl_TypesOk_1.G k) 1000 (bodyOf Tryd.prog 115) [.con .str a0, .fn 110 []] [] = slices_IndexFunc_string_at_impl_TypesOk_1.f k a0 := by kernel_rfl
set_option maxRecDepth 100000 in
theorem slices_IndexFunc_string_at_impl_TypesOk_1.eq6 (k : Nat) (x0 : List ByteArray) (x7 : Int) (x8 : Int) : fromPt Tryd.prog slices_IndexFunc_string_at_impl_TypesOk_1.E k slices_IndexFunc_string_at_impl_TypesOk_1.a (slices_IndexFunc_string_at_impl_TypesOk_1.G k) 1000 (bodyOf Tryd.prog 115) 6 [.con .str x0, .fn 110 [], .v (.int .i64 x7), .v (.int .i64 x8)] [] = slices_IndexFunc_string_at_impl_TypesOk_1.p6 (k + 1) x0 x7 x8 := by kernel_rfl
theorem slices_IndexFunc_string_at_impl_TypesOk_1.G6_0 {avs : List AV} {H : List HE} : slices_IndexFunc_string_at_impl_TypesOk_1.G6 0 avs H = none := by unfold slices_IndexFunc_string_at_impl_TypesOk_1.G6; split <;> rfl
theorem slices_IndexFunc_string_at_impl_TypesOk_1.G6_s (k : Nat) {avs : List AV} {H : List HE} {x : Int} (h : slices_IndexFunc_string_at_impl_TypesOk_1.G6 (k + 1) avs H = some x) : fromPt Tryd.prog slices_IndexFunc_string_at_impl_TypesOk_1.E k slices_IndexFunc_string_at_impl_TypesOk_1.a (slices_IndexFunc_string_at_impl_TypesOk_1.G k) 1000 (bodyOf Tryd.prog 115) 6 avs H = some x := by
  unfold slices_IndexFunc_string_at_impl_TypesOk_1.G6 at h
  split at h
  · rw [← h]; exact slices_IndexFunc_string_at_impl_TypesOk_1.eq6 _ _ _ _
  · cases h
theorem slices_IndexFunc_string_at_impl_TypesOk_1.E_ok : EnvOk Tryd.prog slices_IndexFunc_string_at_impl_TypesOk_1.E := ⟨⟨impl_TypesOk_1.sound, callable_of (by kernel_rfl)⟩, trivial⟩
theorem slices_IndexFunc_string_at_impl_TypesOk_1.sound : Sound Tryd.prog 115 slices_IndexFunc_string_at_impl_TypesOk_1.s := by
  refine func_sound (f := slices_IndexFunc_string_at_impl_TypesOk_1.a) (G := slices_IndexFunc_string_at_impl_TypesOk_1.G) (fn := Tryd.f115) (body := bodyOf Tryd.prog 115) 1000 (by kernel_rfl) slices_IndexFunc_string_at_impl_TypesOk_1.E_ok Tryd.func115 (by kernel_rfl) (by kernel_rfl) (by kernel_rfl) (ptsOk_of (by kernel_rfl)) ?_ ?_ ?_ ?_
  · intro r H x h
    unfold slices_IndexFunc_string_at_impl_TypesOk_1.a at h
    simp only at h
    split at h
    · cases h; rfl
    · cases h
  · exact fun q avs H => pick1_none slices_IndexFunc_string_at_impl_TypesOk_1.G6_0 (rfl)
  · intro k q pt avs H x _ h
    rcases pick1_some h with ⟨rfl, h⟩ | h
    · exact slices_IndexFunc_string_at_impl_TypesOk_1.G6_s _ h
    cases h
  · intro k avs H o h
    try dsimp only at h
    split at h
    · cases h; exact slices_IndexFunc_string_at_impl_TypesOk_1.eq _ _
    · cases h

def slices_ContainsFunc_string_at_impl_TypesOk_1.f (k : Nat) (a0 : List ByteArray) : Option (Bool) := ((slices_IndexFunc_string_at_impl_TypesOk_1.f k a0).bind fun t1 => (some (decide (t1 ≥ 0))))
def slices_ContainsFunc_string_at_impl_TypesOk_1.a : FnA (Bool) := ⟨9, [.tmp 4], .bool, [], [], fun x H => match x, H with
  | .bs false r, [] => some r
  | _, _ => none⟩
def slices_ContainsFunc_string_at_impl_TypesOk_1.s : Spec := mkS [.con .str, .fn 110 []] (fun k avs H => match avs, H with
  | [.con .str a0, .fn 110 []], [] => some (slices_ContainsFunc_string_at_impl_TypesOk_1.f k a0)
  | _, _ => none) (fun r => (.bs false r, []))
def slices_ContainsFunc_string_at_impl_TypesOk_1.E : Env := [((115, [110]), slices_IndexFunc_string_at_impl_TypesOk_1.s)]
def slices_ContainsFunc_string_at_impl_TypesOk_1.G (k p : Nat) (avs : List AV) (H : List HE) : Option (Bool) := none
set_option maxRecDepth 100000 in
theorem slices_ContainsFunc_string_at_impl_TypesOk_1.eq (k : Nat) (a0 : List ByteArray) : fromTop Tryd.prog slices_ContainsFunc_string_at_impl_TypesOk_1.E k slices_ContainsFunc_string_at_impl_TypesOk_1.a (slices_ContainsFunc_string_at_impl_TypesOk_1.G k) 1000 (bodyOf Tryd.prog 109) [.con .str a0, .fn 110 []] [] = slices_ContainsFunc_string_at_impl_TypesOk_1.f k a0 := by kernel_rfl
theorem slices_ContainsFunc_string_at_impl_TypesOk_1.E_ok : EnvOk Tryd.prog slices_ContainsFunc_string_at_impl_TypesOk_1.E := ⟨⟨slices_IndexFunc_string_at_impl_TypesOk_1.sound, callable_of (by kernel_rfl)⟩, trivial⟩
theorem slices_ContainsFunc_string_at_impl_TypesOk_1.sound : Sound Tryd.prog 109 slices_ContainsFunc_string_at_impl_TypesOk_1.s := by
  refine func_sound (f := slices_ContainsFunc_string_at_impl_TypesOk_1.a) (G := slices_ContainsFunc_string_at_impl_TypesOk_1.G) (fn := Tryd.f109) (body := bodyOf Tryd.prog 109) 1000 (by kernel_rfl) slices_ContainsFunc_string_at_impl_TypesOk_1.E_ok Tryd.func109 (by kernel_rfl) (by kernel_rfl) (by kernel_rfl) (ptsOk_of (by kernel_rfl)) ?_ ?_ ?_ ?_
  · intro r H x h
    unfold slices_ContainsFunc_string_at_impl_TypesOk_1.a at h
    simp only at h
    split at h
    · cases h; rfl
    · cases h
  · intro q avs H; rfl
  · intro k q pt avs H x _ h; cases h
  · intro k avs H o h
    try dsimp only at h
    split at h
    · cases h; exact slices_ContainsFunc_string_at_impl_TypesOk_1.eq _ _
    · cases h

def impl_TypesOk.f (k : Nat) (a0 : List ByteArray) : Option (Bool) := ((impl_size_string.f a0).bind fun t1 => ((impl_within.f t1 1 12).bind fun t2 => (if t2 = true then ((slices_ContainsFunc_string_at_impl_TypesOk_1.f k a0).bind fun t3 => (some (!t3))) else (some false))))
def impl_TypesOk.a : FnA (Bool) := ⟨11, [.tmp 2], .bool, [], [], fun x H => match x, H with
  | .bs false r, [] => some r
  | _, _ => none⟩
def impl_TypesOk.s : Spec := mkS [.con .str] (fun k avs H => match avs, H with
  | [.con .str a0], [] => some (impl_TypesOk.f k a0)
  | _, _ => none) (fun r => (.bs false r, []))
def impl_TypesOk.E : Env := [((70, []), impl_size_string.s), ((69, []), impl_within.s), ((109, [110]), slices_ContainsFunc_string_at_impl_TypesOk_1.s)]
def impl_TypesOk.G (k p : Nat) (avs : List AV) (H : List HE) : Option (Bool) := none
set_option maxRecDepth 100000 in
theorem impl_TypesOk.eq (k : Nat) (a0 : List ByteArray) : fromTop Tryd.prog impl_TypesOk.E k impl_TypesOk.a (impl_TypesOk.G k) 1000 (bodyOf Tryd.prog 92) [.con .str a0] [] = impl_TypesOk.f k a0 := by kernel_rfl
theorem impl_TypesOk.E_ok : EnvOk Tryd.prog impl_TypesOk.E := ⟨⟨impl_size_string.sound, callable_of (by kernel_rfl)⟩, ⟨impl_within.sound, callable_of (by kernel_rfl)⟩, ⟨slices_ContainsFunc_string_at_impl_TypesOk_1.sound, callable_of (by kernel_rfl)⟩, trivial⟩
theorem impl_TypesOk.sound : Sound Tryd.prog 92 impl_TypesOk.s := by
  refine func_sound (f := impl_TypesOk.a) (G := impl_TypesOk.G) (fn := Tryd.f92) (body := bodyOf Tryd.prog 92) 1000 (by kernel_rfl) impl_TypesOk.E_ok Tryd.func92 (by kernel_rfl) (by kernel_rfl) (by kernel_rfl) (ptsOk_of (by kernel_rfl)) ?_ ?_ ?_ ?_
  · intro r H x h
    unfold impl_TypesOk.a at h
    simp only at h
    split at h
    · cases h; rfl
    · cases h
  · intro q avs H; rfl
  · intro k q pt avs H x _ h; cases h
  · intro k avs H o h
    try dsimp only at h
    split at h
    · cases h; exact impl_TypesOk.eq _ _
    · cases h

def impl_size_int64.f (a0 : List Int) : Option (Int) := (some (a0.length : Int))
def impl_size_int64.a : FnA (Int) := ⟨5, [.tmp 2], .val, [], [], fun x H => match x, H with
  | .v (.int .i64 r), [] => some r
  | _, _ => none⟩
def impl_size_int64.s : Spec := mkS [.con (.int .i64)] (fun k avs H => match avs, H with
  | [.con (.int .i64) a0], [] => some (impl_size_int64.f a0)
  | _, _ => none) (fun r => (.v (.int .i64 r), []))
def impl_size_int64.E : Env := []
def impl_size_int64.G (k p : Nat) (avs : List AV) (H : List HE) : Option (Int) := none
set_option maxRecDepth 100000 in
theorem impl_size_int64.eq (k : Nat) (a0 : List Int) : fromTop Tryd.prog impl_size_int64.E k impl_size_int64.a (impl_size_int64.G k) 1000 (bodyOf Tryd.prog 71) [.con (.int .i64) a0] [] = impl_size_int64.f a0 := by kernel_rfl
theorem impl_size_int64.E_ok : EnvOk Tryd.prog impl_size_int64.E := trivial
theorem impl_size_int64.sound : Sound Tryd.prog 71 impl_size_int64.s := by
  refine func_sound (f := impl_size_int64.a) (G := impl_size_int64.G) (fn := Tryd.f71) (body := bodyOf Tryd.prog 71) 1000 (by kernel_rfl) impl_size_int64.E_ok Tryd.func71 (by kernel_rfl) (by kernel_rfl) (by kernel_rfl) (ptsOk_of (by kernel_rfl)) ?_ ?_ ?_ ?_
  · intro r H x h
    unfold impl_size_int64.a at h
    simp only at h
    split at h
    · cases h; rfl
    · cases h
  · intro q avs H; rfl
  · intro k q pt avs H x _ h; cases h
  · intro k avs H o h
    try dsimp only at h
    split at h
    · cases h; exact impl_size_int64.eq _ _
    · cases h

def impl_starts.p8 : Nat → List ByteArray → Int → List Int → List Int → Int → Option (List Int × Bool)
 | 0, _, _, _, _, _ => none
 | k + 1, x0, x3_0, x3_1, x6, x7 => ((impl_size_int64.f x3_1).bind fun t1 => (if x7 < t1 then (if 0 ≤ x7 then (if x7 < (x3_1.length : Int) then ((impl_size_string.f x0).bind fun t2 => ((impl_within.f (rd x3_1 x7) 0 (wrap64 ((wrap64 (4 * t2)) - 1))).bind fun t3 => (if t3 = true then (if x6.length + 1 ≤ 17592186044416 then (if 0 ≤ (wrap64 (Int.tdiv (rd x3_1 x7) 4)) then (if (wrap64 (Int.tdiv (rd x3_1 x7) 4)) < (x0.length : Int) then ((impl_size_int64.f x3_1).bind fun t4 => (if (wrap64 (x7 + (wrap64 (1 + ((rdOf ByteArray.empty x0 (wrap64 (Int.tdiv (rd x3_1 x7) 4))).size : Int))))) > t4 then (some (([] : List Int), false)) else (impl_starts.p8 k x0 x3_0 x3_1 (x6 ++ ([x7] : List Int)) (wrap64 (x7 + (wrap64 (1 + ((rdOf ByteArray.empty x0 (wrap64 (Int.tdiv (rd x3_1 x7) 4))).size : Int)))))))) else none) else none) else none) else (some (([] : List Int), false))))) else none) else none) else (some (x6, true))))
def impl_starts.f (k : Nat) (a0 : List ByteArray) (a1_0 : Int) (a1_1 : List Int) : Option (List Int × Bool) := (impl_starts.p8 k a0 a1_0 a1_1 ([] : List Int) 0)
def impl_starts.a : FnA (List Int × Bool) := ⟨46, [.tmp 4, .tmp 5], .tup [.row 2 (.int .i64), .bool], [], [⟨8, [0, 3, 6, 7], [.con .str, .box [.val, .con (.int .i64)], .row 2 (.int .i64), .val], []⟩], fun x H => match x, H with
  | .tup [.own 0, .bs false r_1], [.row 2 (.int .i64) r_0] => some (r_0, r_1)
  | _, _ => none⟩
def impl_starts.s : Spec := mkS [.con .str, .agg [.val, .con (.int .i64)]] (fun k avs H => match avs, H with
  | [.con .str a0, .agg [.v (.int .i64 a1_0), .con (.int .i64) a1_1]], [] => some (impl_starts.f k a0 a1_0 a1_1)
  | _, _ => none) (fun r => (.tup [.own 0, .bs false r.2], [.row 2 (.int .i64) r.1]))
def impl_starts.E : Env := [((71, []), impl_size_int64.s), ((70, []), impl_size_string.s), ((69, []), impl_within.s)]
def impl_starts.G8 (k : Nat) (avs : List AV) (H : List HE) : Option (List Int × Bool) := match avs, H with
  | [.con .str x0, .box 0 0, .own 1, .v (.int .i64 x7)], [.box [.v (.int .i64 x3_0), .con (.int .i64) x3_1], .row 2 (.int .i64) x6] => impl_starts.p8 k x0 x3_0 x3_1 x6 x7
  | _, _ => none
def impl_starts.G (k p : Nat) (avs : List AV) (H : List HE) : Option (List Int × Bool) := (pick1 8 (impl_starts.G8 k avs H) none p)
set_option maxRecDepth 100000 in
theorem impl_starts.eq (k : Nat) (a0 : List ByteArray) (a1_0 : Int) (a1_1 : List Int) : fromTop Tryd.prog impl_starts.E k impl_starts.a (impl_starts.G k) 1000 (bodyOf Tryd.prog 93) [.con .str a0, .agg [.v (.int .i64 a1_0), .con (.int .i64) a1_1]] [] = impl_starts.f k a0 a1_0 a1_1 := by kernel_rfl
set_option maxRecDepth 100000 in
theorem impl_starts.eq8 (k : Nat) (x0 : List ByteArray) (x3_0 : Int) (x3_1 : List Int) (x6 : List Int) (x7 : Int) : fromPt Tryd.prog impl_starts.E k impl_starts.a (impl_starts.G k) 1000 (bodyOf Tryd.prog 93) 8 [.con .str x0, .box 0 0, .own 1, .v (.int .i64 x7)] [.box [.v (.int .i64 x3_0), .con (.int .i64) x3_1], .row 2 (.int .i64) x6] = impl_starts.p8 (k + 1) x0 x3_0 x3_1 x6 x7 := by kernel_rfl
theorem impl_starts.G8_0 {avs : List AV} {H : List HE} : impl_starts.G8 0 avs H = none := by unfold impl_starts.G8; split <;> rfl
theorem impl_starts.G8_s (k : Nat) {avs : List AV} {H : List HE} {x : List Int × Bool} (h : impl_starts.G8 (k + 1) avs H = some x) : fromPt Tryd.prog impl_starts.E k impl_starts.a (impl_starts.G k) 1000 (bodyOf Tryd.prog 93) 8 avs H = some x := by
  unfold impl_starts.G8 at h
  split at h
  · rw [← h]; exact impl_starts.eq8 _ _ _ _ _ _
  · cases h
theorem impl_starts.E_ok : EnvOk Tryd.prog impl_starts.E := ⟨⟨impl_size_int64.sound, callable_of (by kernel_rfl)⟩, ⟨impl_size_string.sound, callable_of (by kernel_rfl)⟩, ⟨impl_within.sound, callable_of (by kernel_rfl)⟩, trivial⟩
theorem impl_starts.sound : Sound Tryd.prog 93 impl_starts.s := by
  refine func_sound (f := impl_starts.a) (G := impl_starts.G) (fn := Tryd.f93) (body := bodyOf Tryd.prog 93) 1000 (by kernel_rfl) impl_starts.E_ok Tryd.func93 (by kernel_rfl) (by kernel_rfl) (by kernel_rfl) (ptsOk_of (by kernel_rfl)) ?_ ?_ ?_ ?_
  · intro r H x h
    unfold impl_starts.a at h
    simp only at h
    split at h
    · cases h; rfl
    · cases h
  · exact fun q avs H => pick1_none impl_starts.G8_0 (rfl)
  · intro k q pt avs H x _ h
    rcases pick1_some h with ⟨rfl, h⟩ | h
    · exact impl_starts.G8_s _ h
    cases h
  · intro k avs H o h
    try dsimp only at h
    split at h
    · cases h; exact impl_starts.eq _ _ _ _
    · cases h

def slices_Clone_int64.f (a0 : List Int) : Option (List Int) := if a0.length ≤ 1099511627776 then some a0 else none
def slices_Clone_int64.s : Spec := mkS [.con (.int .i64)] (fun _ avs H => match avs, H with
  | [.con (.int .i64) a0], [] => some (slices_Clone_int64.f a0)
  | _, _ => none) (fun r => (.own 0, [.row 2 (.int .i64) r]))
theorem slices_Clone_int64.sound : Sound Tryd.prog 97 slices_Clone_int64.s := by
  refine sound_row (e := 2) (t := .int .i64) (emb := fun r => r) ?_
  intro k avs H o x h hx
  split at h
  case h_2 => cases h
  rename_i a0
  cases h
  refine ⟨rfl, fun M w ρ hp vals hr => ?_⟩
  obtain ⟨v0, q0, rfl, ⟨A0, c, rfl, hle, hrow⟩, rfl⟩ := hr
  unfold slices_Clone_int64.f at hx
  split at hx
  case isFalse => cases hx
  rename_i h0
  obtain rfl := Option.some.inj hx
  exact clone_int_calls a0 A0 c hle hrow h0 (fun n c w => Go.Proofs.Tryd.slices_Clone_int_nil n c w) (fun a c w => Go.Proofs.Tryd.slices_Clone_int_zero a c w) (fun b off n c zs w => Go.Proofs.Tryd.slices_Clone_int b off n c zs w)

def impl_youngObject.f (a0 : List ByteArray) (a1_0 : Int) (a1_1 : List Int) (a2 : Int) : Option (Int × List Int) := (if 0 ≤ a2 then (if a2 < (a1_1.length : Int) then (if 0 ≤ (wrap64 (Int.tdiv (rd a1_1 a2) 4)) then (if (wrap64 (Int.tdiv (rd a1_1 a2) 4)) < (a0.length : Int) then (if 0 ≤ (wrap64 ((wrap64 (a2 + 1)) + ((rdOf ByteArray.empty a0 (wrap64 (Int.tdiv (rd a1_1 a2) 4))).size : Int))) then (if (wrap64 ((wrap64 (a2 + 1)) + ((rdOf ByteArray.empty a0 (wrap64 (Int.tdiv (rd a1_1 a2) 4))).size : Int))) ≤ (a1_1.length : Int) then (if 0 ≤ (wrap64 (a2 + 1)) then (if (wrap64 (a2 + 1)) ≤ (wrap64 ((wrap64 (a2 + 1)) + ((rdOf ByteArray.empty a0 (wrap64 (Int.tdiv (rd a1_1 a2) 4))).size : Int))) then ((slices_Clone_int64.f ((a1_1.take (wrap64 ((wrap64 (a2 + 1)) + ((rdOf ByteArray.empty a0 (wrap64 (Int.tdiv (rd a1_1 a2) 4))).size : Int))).toNat).drop (wrap64 (a2 + 1)).toNat)).bind fun t1 => (some ((wrap64 (Int.tdiv (rd a1_1 a2) 4)), t1))) else none) else none) else none) else none) else none) else none) else none) else none)
def impl_youngObject.a : FnA (Int × List Int) := ⟨30, [.cell 6 40], .agg [.val, .row 2 (.int .i64)], [], [], fun x H => match x, H with
  | .agg [.v (.int .i64 r_0), .own 0], [.row 2 (.int .i64) r_1] => some (r_0, r_1)
  | _, _ => none⟩
def impl_youngObject.s : Spec := mkS [.con .str, .agg [.val, .con (.int .i64)], .val] (fun k avs H => match avs, H with
  | [.con .str a0, .agg [.v (.int .i64 a1_0), .con (.int .i64) a1_1], .v (.int .i64 a2)], [] => some (impl_youngObject.f a0 a1_0 a1_1 a2)
  | _, _ => none) (fun r => (.agg [.v (.int .i64 r.1), .own 0], [.row 2 (.int .i64) r.2]))
def impl_youngObject.E : Env := [((97, []), slices_Clone_int64.s)]
def impl_youngObject.G (k p : Nat) (avs : List AV) (H : List HE) : Option (Int × List Int) := none
set_option maxRecDepth 100000 in
theorem impl_youngObject.eq (k : Nat) (a0 : List ByteArray) (a1_0 : Int) (a1_1 : List Int) (a2 : Int) : fromTop Tryd.prog impl_youngObject.E k impl_youngObject.a (impl_youngObject.G k) 1000 (bodyOf Tryd.prog 66) [.con .str a0, .agg [.v (.int .i64 a1_0), .con (.int .i64) a1_1], .v (.int .i64 a2)] [] = impl_youngObject.f a0 a1_0 a1_1 a2 := by kernel_rfl
theorem impl_youngObject.E_ok : EnvOk Tryd.prog impl_youngObject.E := ⟨⟨slices_Clone_int64.sound, callable_of (by kernel_rfl)⟩, trivial⟩
theorem impl_youngObject.sound : Sound Tryd.prog 66 impl_youngObject.s := by
  refine func_sound (f := impl_youngObject.a) (G := impl_youngObject.G) (fn := Tryd.f66) (body := bodyOf Tryd.prog 66) 1000 (by kernel_rfl) impl_youngObject.E_ok Tryd.func66 (by kernel_rfl) (by kernel_rfl) (by kernel_rfl) (ptsOk_of (by kernel_rfl)) ?_ ?_ ?_ ?_
  · intro r H x h
    unfold impl_youngObject.a at h
    simp only at h
    split at h
    · cases h; rfl
    · cases h
  · intro q avs H; rfl
  · intro k q pt avs H x _ h; cases h
  · intro k avs H o h
    try dsimp only at h
    split at h
    · cases h; exact impl_youngObject.eq _ _ _ _ _
    · cases h

def impl_RefKind.f (a0 : Int) : Option (Int) := (if a0 = 0 then (some 0) else ((impl_within.f a0 2 254).bind fun t1 => (if t1 = true then (if (Int.tmod a0 2) = 0 then (some 1) else ((impl_within.f a0 1 799).bind fun t2 => (if t2 = true then (if (Int.tmod a0 2) = 1 then (some 2) else (some (-1))) else (some (-1))))) else ((impl_within.f a0 1 799).bind fun t3 => (if t3 = true then (if (Int.tmod a0 2) = 1 then (some 2) else (some (-1))) else (some (-1)))))))
def impl_RefKind.a : FnA (Int) := ⟨22, [.tmp 2], .val, [], [], fun x H => match x, H with
  | .v (.int .i64 r), [] => some r
  | _, _ => none⟩
def impl_RefKind.s : Spec := mkS [.val] (fun k avs H => match avs, H with
  | [.v (.int .i64 a0)], [] => some (impl_RefKind.f a0)
  | _, _ => none) (fun r => (.v (.int .i64 r), []))
def impl_RefKind.E : Env := [((69, []), impl_within.s)]
def impl_RefKind.G (k p : Nat) (avs : List AV) (H : List HE) : Option (Int) := none
set_option maxRecDepth 100000 in
theorem impl_RefKind.eq (k : Nat) (a0 : Int) : fromTop Tryd.prog impl_RefKind.E k impl_RefKind.a (impl_RefKind.G k) 1000 (bodyOf Tryd.prog 53) [.v (.int .i64 a0)] [] = impl_RefKind.f a0 := by kernel_rfl
theorem impl_RefKind.E_ok : EnvOk Tryd.prog impl_RefKind.E := ⟨⟨impl_within.sound, callable_of (by kernel_rfl)⟩, trivial⟩
theorem impl_RefKind.sound : Sound Tryd.prog 53 impl_RefKind.s := by
  refine func_sound (f := impl_RefKind.a) (G := impl_RefKind.G) (fn := Tryd.f53) (body := bodyOf Tryd.prog 53) 1000 (by kernel_rfl) impl_RefKind.E_ok Tryd.func53 (by kernel_rfl) (by kernel_rfl) (by kernel_rfl) (ptsOk_of (by kernel_rfl)) ?_ ?_ ?_ ?_
  · intro r H x h
    unfold impl_RefKind.a at h
    simp only at h
    split at h
    · cases h; rfl
    · cases h
  · intro q avs H; rfl
  · intro k q pt avs H x _ h; cases h
  · intro k avs H o h
    try dsimp only at h
    split at h
    · cases h; exact impl_RefKind.eq _ _
    · cases h

def impl_isOld.f (a0 : Int) : Option (Bool) := ((impl_RefKind.f a0).bind fun t1 => (some (decide (t1 = 1))))
def impl_isOld.a : FnA (Bool) := ⟨6, [.tmp 2], .bool, [], [], fun x H => match x, H with
  | .bs false r, [] => some r
  | _, _ => none⟩
def impl_isOld.s : Spec := mkS [.val] (fun k avs H => match avs, H with
  | [.v (.int .i64 a0)], [] => some (impl_isOld.f a0)
  | _, _ => none) (fun r => (.bs false r, []))
def impl_isOld.E : Env := [((53, []), impl_RefKind.s)]
def impl_isOld.G (k p : Nat) (avs : List AV) (H : List HE) : Option (Bool) := none
set_option maxRecDepth 100000 in
theorem impl_isOld.eq (k : Nat) (a0 : Int) : fromTop Tryd.prog impl_isOld.E k impl_isOld.a (impl_isOld.G k) 1000 (bodyOf Tryd.prog 98) [.v (.int .i64 a0)] [] = impl_isOld.f a0 := by kernel_rfl
theorem impl_isOld.E_ok : EnvOk Tryd.prog impl_isOld.E := ⟨⟨impl_RefKind.sound, callable_of (by kernel_rfl)⟩, trivial⟩
theorem impl_isOld.sound : Sound Tryd.prog 98 impl_isOld.s := by
  refine func_sound (f := impl_isOld.a) (G := impl_isOld.G) (fn := Tryd.f98) (body := bodyOf Tryd.prog 98) 1000 (by kernel_rfl) impl_isOld.E_ok Tryd.func98 (by kernel_rfl) (by kernel_rfl) (by kernel_rfl) (ptsOk_of (by kernel_rfl)) ?_ ?_ ?_ ?_
  · intro r H x h
    unfold impl_isOld.a at h
    simp only at h
    split at h
    · cases h; rfl
    · cases h
  · intro q avs H; rfl
  · intro k q pt avs H x _ h; cases h
  · intro k avs H o h
    try dsimp only at h
    split at h
    · cases h; exact impl_isOld.eq _ _
    · cases h

def impl_isYoung.f (a0 : Int) : Option (Bool) := ((impl_RefKind.f a0).bind fun t1 => (some (decide (t1 = 2))))
def impl_isYoung.a : FnA (Bool) := ⟨6, [.tmp 2], .bool, [], [], fun x H => match x, H with
  | .bs false r, [] => some r
  | _, _ => none⟩
def impl_isYoung.s : Spec := mkS [.val] (fun k avs H => match avs, H with
  | [.v (.int .i64 a0)], [] => some (impl_isYoung.f a0)
  | _, _ => none) (fun r => (.bs false r, []))
def impl_isYoung.E : Env := [((53, []), impl_RefKind.s)]
def impl_isYoung.G (k p : Nat) (avs : List AV) (H : List HE) : Option (Bool) := none
set_option maxRecDepth 100000 in
theorem impl_isYoung.eq (k : Nat) (a0 : Int) : fromTop Tryd.prog impl_isYoung.E k impl_isYoung.a (impl_isYoung.G k) 1000 (bodyOf Tryd.prog 88) [.v (.int .i64 a0)] [] = impl_isYoung.f a0 := by kernel_rfl
theorem impl_isYoung.E_ok : EnvOk Tryd.prog impl_isYoung.E := ⟨⟨impl_RefKind.sound, callable_of (by kernel_rfl)⟩, trivial⟩
theorem impl_isYoung.sound : Sound Tryd.prog 88 impl_isYoung.s := by
  refine func_sound (f := impl_isYoung.a) (G := impl_isYoung.G) (fn := Tryd.f88) (body := bodyOf Tryd.prog 88) 1000 (by kernel_rfl) impl_isYoung.E_ok Tryd.func88 (by kernel_rfl) (by kernel_rfl) (by kernel_rfl) (ptsOk_of (by kernel_rfl)) ?_ ?_ ?_ ?_
  · intro r H x h
    unfold impl_isYoung.a at h
    simp only at h
    split at h
    · cases h; rfl
    · cases h
  · intro q avs H; rfl
  · intro k q pt avs H x _ h; cases h
  · intro k avs H o h
    try dsimp only at h
    split at h
    · cases h; exact impl_isYoung.eq _ _
    · cases h

def cmp_isNaN_int64.f (a0 : Int) : Option (Bool) := (some (!decide (a0 = a0)))
def cmp_isNaN_int64.a : FnA (Bool) := ⟨6, [.tmp 2], .bool, [], [], fun x H => match x, H with
  | .bs false r, [] => some r
  | _, _ => none⟩
def cmp_isNaN_int64.s : Spec := mkS [.val] (fun k avs H => match avs, H with
  | [.v (.int .i64 a0)], [] => some (cmp_isNaN_int64.f a0)
  | _, _ => none) (fun r => (.bs false r, []))
def cmp_isNaN_int64.E : Env := []
def cmp_isNaN_int64.G (k p : Nat) (avs : List AV) (H : List HE) : Option (Bool) := none
set_option maxRecDepth 100000 in
theorem cmp_isNaN_int64.eq (k : Nat) (a0 : Int) : fromTop Tryd.prog cmp_isNaN_int64.E k cmp_isNaN_int64.a (cmp_isNaN_int64.G k) 1000 (bodyOf Tryd.prog 117) [.v (.int .i64 a0)] [] = cmp_isNaN_int64.f a0 := by kernel_rfl
theorem cmp_isNaN_int64.E_ok : EnvOk Tryd.prog cmp_isNaN_int64.E := trivial
theorem cmp_isNaN_int64.sound : Sound Tryd.prog 117 cmp_isNaN_int64.s := by
  refine func_sound (f := cmp_isNaN_int64.a) (G := cmp_isNaN_int64.G) (fn := Tryd.f117) (body := bodyOf Tryd.prog 117) 1000 (by kernel_rfl) cmp_isNaN_int64.E_ok Tryd.func117 (by kernel_rfl) (by kernel_rfl) (by kernel_rfl) (ptsOk_of (by kernel_rfl)) ?_ ?_ ?_ ?_
  · intro r H x h
    unfold cmp_isNaN_int64.a at h
    simp only at h
    split at h
    · cases h; rfl
    · cases h
  · intro q avs H; rfl
  · intro k q pt avs H x _ h; cases h
  · intro k avs H o h
    try dsimp only at h
    split at h
    · cases h; exact cmp_isNaN_int64.eq _ _
    · cases h

def cmp_Less_int64.f (a0 : Int) (a1 : Int) : Option (Bool) := ((cmp_isNaN_int64.f a0).bind fun t1 => (if t1 = true then ((cmp_isNaN_int64.f a1).bind fun t2 => (if t2 = true then (some (decide (a0 < a1))) else (some true))) else (some (decide (a0 < a1)))))
def cmp_Less_int64.a : FnA (Bool) := ⟨17, [.tmp 4], .bool, [], [], fun x H => match x, H with
  | .bs false r, [] => some r
  | _, _ => none⟩
def cmp_Less_int64.s : Spec := mkS [.val, .val] (fun k avs H => match avs, H with
  | [.v (.int .i64 a0), .v (.int .i64 a1)], [] => some (cmp_Less_int64.f a0 a1)
  | _, _ => none) (fun r => (.bs false r, []))
def cmp_Less_int64.E : Env := [((117, []), cmp_isNaN_int64.s)]
def cmp_Less_int64.G (k p : Nat) (avs : List AV) (H : List HE) : Option (Bool) := none
set_option maxRecDepth 100000 in
theorem cmp_Less_int64.eq (k : Nat) (a0 : Int) (a1 : Int) : fromTop Tryd.prog cmp_Less_int64.E k cmp_Less_int64.a (cmp_Less_int64.G k) 1000 (bodyOf Tryd.prog 112) [.v (.int .i64 a0), .v (.int .i64 a1)] [] = cmp_Less_int64.f a0 a1 := by kernel_rfl
theorem cmp_Less_int64.E_ok : EnvOk Tryd.prog cmp_Less_int64.E := ⟨⟨cmp_isNaN_int64.sound, callable_of (by kernel_rfl)⟩, trivial⟩
theorem cmp_Less_int64.sound : Sound Tryd.prog 112 cmp_Less_int64.s := by
  refine func_sound (f := cmp_Less_int64.a) (G := cmp_Less_int64.G) (fn := Tryd.f112) (body := bodyOf Tryd.prog 112) 1000 (by kernel_rfl) cmp_Less_int64.E_ok Tryd.func112 (by kernel_rfl) (by kernel_rfl) (by kernel_rfl) (ptsOk_of (by kernel_rfl)) ?_ ?_ ?_ ?_
  · intro r H x h
    unfold cmp_Less_int64.a at h
    simp only at h
    split at h
    · cases h; rfl
    · cases h
  · intro q avs H; rfl
  · intro k q pt avs H x _ h; cases h
  · intro k avs H o h
    try dsimp only at h
    split at h
    · cases h; exact cmp_Less_int64.eq _ _ _
    · cases h

def slices_isNaN_int64.f (a0 : Int) : Option (Bool) := (some (!decide (a0 = a0)))
def slices_isNaN_int64.a : FnA (Bool) := ⟨6, [.tmp 2], .bool, [], [], fun x H => match x, H with
  | .bs false r, [] => some r
  | _, _ => none⟩
def slices_isNaN_int64.s : Spec := mkS [.val] (fun k avs H => match avs, H with
  | [.v (.int .i64 a0)], [] => some (slices_isNaN_int64.f a0)
  | _, _ => none) (fun r => (.bs false r, []))
def slices_isNaN_int64.E : Env := []
def slices_isNaN_int64.G (k p : Nat) (avs : List AV) (H : List HE) : Option (Bool) := none
set_option maxRecDepth 100000 in
theorem slices_isNaN_int64.eq (k : Nat) (a0 : Int) : fromTop Tryd.prog slices_isNaN_int64.E k slices_isNaN_int64.a (slices_isNaN_int64.G k) 1000 (bodyOf Tryd.prog 113) [.v (.int .i64 a0)] [] = slices_isNaN_int64.f a0 := by kernel_rfl
theorem slices_isNaN_int64.E_ok : EnvOk Tryd.prog slices_isNaN_int64.E := trivial
theorem slices_isNaN_int64.sound : Sound Tryd.prog 113 slices_isNaN_int64.s := by
  refine func_sound (f := slices_isNaN_int64.a) (G := slices_isNaN_int64.G) (fn := Tryd.f113) (body := bodyOf Tryd.prog 113) 1000 (by kernel_rfl) slices_isNaN_int64.E_ok Tryd.func113 (by kernel_rfl) (by kernel_rfl) (by kernel_rfl) (ptsOk_of (by kernel_rfl)) ?_ ?_ ?_ ?_
  · intro r H x h
    unfold slices_isNaN_int64.a at h
    simp only at h
    split at h
    · cases h; rfl
    · cases h
  · intro q avs H; rfl
  · intro k q pt avs H x _ h; cases h
  · intro k avs H o h
    try dsimp only at h
    split at h
    · cases h; exact slices_isNaN_int64.eq _ _
    · cases h

def slices_BinarySearch_int64.p8 : Nat → List Int → Int → Int → Int → Int → Option (Int × Bool)
 | 0, _, _, _, _, _ => none
 | k + 1, x0, x1, x6, x7, x8 => (if x7 < x8 then (if 0 ≤ (wrap64 (shrA .u64 (IntKind.wrap .u64 (wrap64 (x7 + x8))) 1)) then (if (wrap64 (shrA .u64 (IntKind.wrap .u64 (wrap64 (x7 + x8))) 1)) < (x0.length : Int) then ((cmp_Less_int64.f (rd x0 (wrap64 (shrA .u64 (IntKind.wrap .u64 (wrap64 (x7 + x8))) 1))) x1).bind fun t1 => (if t1 = true then (slices_BinarySearch_int64.p8 k x0 x1 x6 (wrap64 ((wrap64 (shrA .u64 (IntKind.wrap .u64 (wrap64 (x7 + x8))) 1)) + 1)) x8) else (slices_BinarySearch_int64.p8 k x0 x1 x6 x7 (wrap64 (shrA .u64 (IntKind.wrap .u64 (wrap64 (x7 + x8))) 1))))) else none) else none) else (if x7 < x6 then (if 0 ≤ x7 then (if x7 < (x0.length : Int) then (if (rd x0 x7) = x1 then (some (x7, true)) else (if 0 ≤ x7 then (if x7 < (x0.length : Int) then ((slices_isNaN_int64.f (rd x0 x7)).bind fun t2 => (if t2 = true then ((slices_isNaN_int64.f x1).bind fun t3 => (some (x7, t3))) else (some (x7, false)))) else none) else none)) else none) else none) else (some (x7, false))))
def slices_BinarySearch_int64.f (k : Nat) (a0 : List Int) (a1 : Int) : Option (Int × Bool) := (slices_BinarySearch_int64.p8 k a0 a1 (a0.length : Int) 0 (a0.length : Int))
def slices_BinarySearch_int64.a : FnA (Int × Bool) := ⟨54, [.tmp 4, .tmp 5], .tup [.val, .bool], [], [⟨8, [0, 1, 6, 7, 8], [.con (.int .i64), .val, .val, .val, .val], []⟩], fun x H => match x, H with
  | .tup [.v (.int .i64 r_0), .bs false r_1], [] => some (r_0, r_1)
  | _, _ => none⟩
def slices_BinarySearch_int64.s : Spec := mkS [.con (.int .i64), .val] (fun k avs H => match avs, H with
  | [.con (.int .i64) a0, .v (.int .i64 a1)], [] => some (slices_BinarySearch_int64.f k a0 a1)
  | _, _ => none) (fun r => (.tup [.v (.int .i64 r.1), .bs false r.2], []))
def slices_BinarySearch_int64.E : Env := [((112, []), cmp_Less_int64.s), ((113, []), slices_isNaN_int64.s)]
def slices_BinarySearch_int64.G8 (k : Nat) (avs : List AV) (H : List HE) : Option (Int × Bool) := match avs, H with
  | [.con (.int .i64) x0, .v (.int .i64 x1), .v (.int .i64 x6), .v (.int .i64 x7), .v (.int .i64 x8)], [] => slices_BinarySearch_int64.p8 k x0 x1 x6 x7 x8
  | _, _ => none
def slices_BinarySearch_int64.G (k p : Nat) (avs : List AV) (H : List HE) : Option (Int × Bool) := (pick1 8 (slices_BinarySearch_int64.G8 k avs H) none p)
set_option maxRecDepth 100000 in
theorem slices_BinarySearch_int64.eq (k : Nat) (a0 : List Int) (a1 : Int) : fromTop Tryd.prog slices_BinarySearch_int64.E k slices_BinarySearch_int64.a (slices_BinarySearch_int64.G k) 1000 (bodyOf Tryd.prog 96) [.con (.int .i64) a0, .v (.int .i64 a1)] [] = slices_BinarySearch_int64.f k a0 a1 := by kernel_rfl
set_option maxRecDepth 100000 in
theorem slices_BinarySearch_int64.eq8 (k : Nat) (x0 : List Int) (x1 : Int) (x6 : Int) (x7 : Int) (x8 : Int) : fromPt Tryd.prog slices_BinarySearch_int64.E k slices_BinarySearch_int64.a (slices_BinarySearch_int64.G k) 1000 (bodyOf Tryd.prog 96) 8 [.con (.int .i64) x0, .v (.int .i64 x1), .v (.int .i64 x6), .v (.int .i64 x7), .v (.int .i64 x8)] [] = slices_BinarySearch_int64.p8 (k + 1) x0 x1 x6 x7 x8 := by kernel_rfl
theorem slices_BinarySearch_int64.G8_0 {avs : List AV} {H : List HE} : slices_BinarySearch_int64.G8 0 avs H = none := by unfold slices_BinarySearch_int64.G8; split <;> rfl
theorem slices_BinarySearch_int64.G8_s (k : Nat) {avs : List AV} {H : List HE} {x : Int × Bool} (h : slices_BinarySearch_int64.G8 (k + 1) avs H = some x) : fromPt Tryd.prog slices_BinarySearch_int64.E k slices_BinarySearch_int64.a (slices_BinarySearch_int64.G k) 1000 (bodyOf Tryd.prog 96) 8 avs H = some x := by
  unfold slices_BinarySearch_int64.G8 at h
  split at h
  · rw [← h]; exact slices_BinarySearch_int64.eq8 _ _ _ _ _ _
  · cases h
theorem slices_BinarySearch_int64.E_ok : EnvOk Tryd.prog slices_BinarySearch_int64.E := ⟨⟨cmp_Less_int64.sound, callable_of (by kernel_rfl)⟩, ⟨slices_isNaN_int64.sound, callable_of (by kernel_rfl)⟩, trivial⟩
theorem slices_BinarySearch_int64.sound : Sound Tryd.prog 96 slices_BinarySearch_int64.s := by
  refine func_sound (f := slices_BinarySearch_int64.a) (G := slices_BinarySearch_int64.G) (fn := Tryd.f96) (body := bodyOf Tryd.prog 96) 1000 (by kernel_rfl) slices_BinarySearch_int64.E_ok Tryd.func96 (by kernel_rfl) (by kernel_rfl) (by kernel_rfl) (ptsOk_of (by kernel_rfl)) ?_ ?_ ?_ ?_
  · intro r H x h
    unfold slices_BinarySearch_int64.a at h
    simp only at h
    split at h
    · cases h; rfl
    · cases h
  · exact fun q avs H => pick1_none slices_BinarySearch_int64.G8_0 (rfl)
  · intro k q pt avs H x _ h
    rcases pick1_some h with ⟨rfl, h⟩ | h
    · exact slices_BinarySearch_int64.G8_s _ h
    cases h
  · intro k avs H o h
    try dsimp only at h
    split at h
    · cases h; exact slices_BinarySearch_int64.eq _ _ _
    · cases h

def impl_isHead.f (k : Nat) (a0 : Int) (a1 : List Int) : Option (Bool) := ((impl_isYoung.f a0).bind fun t1 => (if t1 = true then ((slices_BinarySearch_int64.f k a1 (wrap64 (Int.tdiv a0 2))).bind fun t2 => (some t2.2)) else (some false)))
def impl_isHead.a : FnA (Bool) := ⟨18, [.tmp 4], .bool, [], [], fun x H => match x, H with
  | .bs false r, [] => some r
  | _, _ => none⟩
def impl_isHead.s : Spec := mkS [.val, .con (.int .i64)] (fun k avs H => match avs, H with
  | [.v (.int .i64 a0), .con (.int .i64) a1], [] => some (impl_isHead.f k a0 a1)
  | _, _ => none) (fun r => (.bs false r, []))
def impl_isHead.E : Env := [((88, []), impl_isYoung.s), ((96, []), slices_BinarySearch_int64.s)]
def impl_isHead.G (k p : Nat) (avs : List AV) (H : List HE) : Option (Bool) := none
set_option maxRecDepth 100000 in
theorem impl_isHead.eq (k : Nat) (a0 : Int) (a1 : List Int) : fromTop Tryd.prog impl_isHead.E k impl_isHead.a (impl_isHead.G k) 1000 (bodyOf Tryd.prog 65) [.v (.int .i64 a0), .con (.int .i64) a1] [] = impl_isHead.f k a0 a1 := by kernel_rfl
theorem impl_isHead.E_ok : EnvOk Tryd.prog impl_isHead.E := ⟨⟨impl_isYoung.sound, callable_of (by kernel_rfl)⟩, ⟨slices_BinarySearch_int64.sound, callable_of (by kernel_rfl)⟩, trivial⟩
theorem impl_isHead.sound : Sound Tryd.prog 65 impl_isHead.s := by
  refine func_sound (f := impl_isHead.a) (G := impl_isHead.G) (fn := Tryd.f65) (body := bodyOf Tryd.prog 65) 1000 (by kernel_rfl) impl_isHead.E_ok Tryd.func65 (by kernel_rfl) (by kernel_rfl) (by kernel_rfl) (ptsOk_of (by kernel_rfl)) ?_ ?_ ?_ ?_
  · intro r H x h
    unfold impl_isHead.a at h
    simp only at h
    split at h
    · cases h; rfl
    · cases h
  · intro q avs H; rfl
  · intro k q pt avs H x _ h; cases h
  · intro k avs H o h
    try dsimp only at h
    split at h
    · cases h; exact impl_isHead.eq _ _ _
    · cases h

def impl_isRef.f (k : Nat) (a0 : Int) (a1 : List Int) : Option (Bool) := (if a0 = 0 then (some true) else ((impl_isOld.f a0).bind fun t1 => (if t1 = true then (some true) else ((impl_isHead.f k a0 a1).bind fun t2 => (some t2)))))
def impl_isRef.a : FnA (Bool) := ⟨16, [.tmp 4], .bool, [], [], fun x H => match x, H with
  | .bs false r, [] => some r
  | _, _ => none⟩
def impl_isRef.s : Spec := mkS [.val, .con (.int .i64)] (fun k avs H => match avs, H with
  | [.v (.int .i64 a0), .con (.int .i64) a1], [] => some (impl_isRef.f k a0 a1)
  | _, _ => none) (fun r => (.bs false r, []))
def impl_isRef.E : Env := [((98, []), impl_isOld.s), ((65, []), impl_isHead.s)]
def impl_isRef.G (k p : Nat) (avs : List AV) (H : List HE) : Option (Bool) := none
set_option maxRecDepth 100000 in
theorem impl_isRef.eq (k : Nat) (a0 : Int) (a1 : List Int) : fromTop Tryd.prog impl_isRef.E k impl_isRef.a (impl_isRef.G k) 1000 (bodyOf Tryd.prog 74) [.v (.int .i64 a0), .con (.int .i64) a1] [] = impl_isRef.f k a0 a1 := by kernel_rfl
theorem impl_isRef.E_ok : EnvOk Tryd.prog impl_isRef.E := ⟨⟨impl_isOld.sound, callable_of (by kernel_rfl)⟩, ⟨impl_isHead.sound, callable_of (by kernel_rfl)⟩, trivial⟩
theorem impl_isRef.sound : Sound Tryd.prog 74 impl_isRef.s := by
  refine func_sound (f := impl_isRef.a) (G := impl_isRef.G) (fn := Tryd.f74) (body := bodyOf Tryd.prog 74) 1000 (by kernel_rfl) impl_isRef.E_ok Tryd.func74 (by kernel_rfl) (by kernel_rfl) (by kernel_rfl) (ptsOk_of (by kernel_rfl)) ?_ ?_ ?_ ?_
  · intro r H x h
    unfold impl_isRef.a at h
    simp only at h
    split at h
    · cases h; rfl
    · cases h
  · intro q avs H; rfl
  · intro k q pt avs H x _ h; cases h
  · intro k avs H o h
    try dsimp only at h
    split at h
    · cases h; exact impl_isRef.eq _ _ _
    · cases h

def impl_heads_1.f (k : Nat) (a0 : Int) (a1 : List Int) : Option (Bool) := ((impl_isRef.f k a0 a1).bind fun t1 => (some t1))
def impl_heads_1.a : FnA (Bool) := ⟨7, [.tmp 3], .bool, [], [], fun x H => match x, H with
  | .bs false r, [] => some r
  | _, _ => none⟩
def impl_heads_1.s : Spec := mkS [.val, .elt (.sl (.int .i64))] (fun k avs H => match avs, H with
  | [.v (.int .i64 a0), .elt (.sl (.int .i64)) a1 0], [] => some (impl_heads_1.f k a0 a1)
  | _, _ => none) (fun r => (.bs false r, []))
def impl_heads_1.E : Env := [((74, []), impl_isRef.s)]
def impl_heads_1.G (k p : Nat) (avs : List AV) (H : List HE) : Option (Bool) := none
set_option maxRecDepth 100000 in
theorem impl_heads_1.eq (k : Nat) (a0 : Int) (a1 : List Int) : fromTop Tryd.prog impl_heads_1.E k impl_heads_1.a (impl_heads_1.G k) 1000 (bodyOf Tryd.prog 95) [.v (.int .i64 a0), .elt (.sl (.int .i64)) a1 0] [] = impl_heads_1.f k a0 a1 := by kernel_rfl
theorem impl_heads_1.E_ok : EnvOk Tryd.prog impl_heads_1.E := ⟨⟨impl_isRef.sound, callable_of (by kernel_rfl)⟩, trivial⟩
theorem impl_heads_1.sound : Sound Tryd.prog 95 impl_heads_1.s := by
  refine func_sound (f := impl_heads_1.a) (G := impl_heads_1.G) (fn := Tryd.f95) (body := bodyOf Tryd.prog 95) 1000 (by kernel_rfl) impl_heads_1.E_ok Tryd.func95 (by kernel_rfl) (by kernel_rfl) (by kernel_rfl) (ptsOk_of (by kernel_rfl)) ?_ ?_ ?_ ?_
  · intro r H x h
    unfold impl_heads_1.a at h
    simp only at h
    split at h
    · cases h; rfl
    · cases h
  · intro q avs H; rfl
  · intro k q pt avs H x _ h; cases h
  · intro k avs H o h
    try dsimp only at h
    split at h
    · cases h; exact impl_heads_1.eq _ _ _
    · cases h

def impl_isObject_at_impl_heads_1.p14 : Nat → List ByteArray → List Int → Int → List Int → List Int → Int → Int → Option (Bool)
 | 0, _, _, _, _, _, _, _ => none
 | k + 1, x0, x2_0, x4_0, x4_1, x29, x30, x31 => (if x31 < x30 then (if 0 ≤ x31 then (if x31 < (x29.length : Int) then (if 0 ≤ x4_0 then (if x4_0 < (x0.length : Int) then (if 0 ≤ x31 then (if x31 < ((rdOf ByteArray.empty x0 x4_0).size : Int) then (if (byteAt (rdOf ByteArray.empty x0 x4_0) x31) = 114 then ((impl_heads_1.f k (rd x29 x31) x2_0).bind fun t3 => (if t3 = true then (impl_isObject_at_impl_heads_1.p14 k x0 x2_0 x4_0 x4_1 x29 x30 (wrap64 (x31 + 1))) else (some false))) else (impl_isObject_at_impl_heads_1.p14 k x0 x2_0 x4_0 x4_1 x29 x30 (wrap64 (x31 + 1)))) else none) else none) else none) else none) else none) else none) else (some true))
def impl_isObject_at_impl_heads_1.f (k : Nat) (a0 : List ByteArray) (a1_0 : Int) (a1_1 : List Int) (a2_0 : List Int) : Option (Bool) := ((impl_size_string.f a0).bind fun t1 => ((impl_within.f a1_0 0 (wrap64 (t1 - 1))).bind fun t2 => (if t2 = true then (if 0 ≤ a1_0 then (if a1_0 < (a0.length : Int) then (if (a1_1.length : Int) = ((rdOf ByteArray.empty a0 a1_0).size : Int) then (impl_isObject_at_impl_heads_1.p14 k a0 a2_0 a1_0 a1_1 a1_1 (a1_1.length : Int) 0) else (some false)) else none) else none) else (some false))))
def impl_isObject_at_impl_heads_1.a : FnA (Bool) := ⟨51, [.tmp 6], .bool, [], [⟨14, [0, 2, 4, 29, 30, 31], [.con .str, .fn 95 [.elt (.sl (.int .i64))], .box [.val, .con (.int .i64)], .con (.int .i64), .val, .val], []⟩], fun x H => match x, H with
  | .bs false r, [] => some r
  | _, _ => none⟩
def impl_isObject_at_impl_heads_1.s : Spec := mkS [.con .str, .agg [.val, .con (.int .i64)], .fn 95 [.elt (.sl (.int .i64))]] (fun k avs H => match avs, H with
  | [.con .str a0, .agg [.v (.int .i64 a1_0), .con (.int .i64) a1_1], .fn 95 [.elt (.sl (.int .i64)) a2_0 0]], [] => some (impl_isObject_at_impl_heads_1.f k a0 a1_0 a1_1 a2_0)
  | _, _ => none) (fun r => (.bs false r, []))
def impl_isObject_at_impl_heads_1.E : Env := [((70, []), impl_size_string.s), ((69, []), impl_within.s), ((95, []), impl_heads_1.s)]
def impl_isObject_at_impl_heads_1.G14 (k : Nat) (avs : List AV) (H : List HE) : Option (Bool) := match avs, H with
  | [.con .str x0, .fn 95 [.elt (.sl (.int .i64)) x2_0 0], .box 0 0, .con (.int .i64) x29, .v (.int .i64 x30), .v (.int .i64 x31)], [.box [.v (.int .i64 x4_0), .con (.int .i64) x4_1]] => impl_isObject_at_impl_heads_1.p14 k x0 x2_0 x4_0 x4_1 x29 x30 x31
  | _, _ => none
def impl_isObject_at_impl_heads_1.G (k p : Nat) (avs : List AV) (H : List HE) : Option (Bool) := (pick1 14 (impl_isObject_at_impl_heads_1.G14 k avs H) none p)
set_option maxRecDepth 100000 in
theorem impl_isObject_at_impl_heads_1.eq (k : Nat) (a0 : List ByteArray) (a1_0 : Int) (a1_1 : List Int) (a2_0 : List Int) : fromTop Tryd.prog impl_isObject_at_impl_heads_1.E k impl_isObject_at_impl_heads_1.a (impl_isObject_at_impl_heads_1.G k) 1000 (bodyOf Tryd.prog 94) [.con .str a0, .agg [.v (.int .i64 a1_0), .con (.int .i64) a1_1], .fn 95 [.elt (.sl (.int .i64)) a2_0 0]] [] = impl_isObject_at_impl_heads_1.f k a0 a1_0 a1_1 a2_0 := by kernel_rfl
set_option maxRecDepth 100000 in
theorem impl_isObject_at_impl_heads_1.eq14 (k : Nat) (x0 : List ByteArray) (x2_0 : List Int) (x4_0 : Int) (x4_1 : List Int) (x29 : List Int) (x30 : Int) (x31 : Int) : fromPt Tryd.prog impl_isObject_at_impl_heads_1.E k impl_isObject_at_impl_heads_1.a (impl_isObject_at_impl_heads_1.G k) 1000 (bodyOf Tryd.prog 94) 14 [.con .str x0, .fn 95 [.elt (.sl (.int .i64)) x2_0 0], .box 0 0, .con (.int .i64) x29, .v (.int .i64 x30), .v (.int .i64 x31)] [.box [.v (.int .i64 x4_0), .con (.int .i64) x4_1]] = impl_isObject_at_impl_heads_1.p14 (k + 1) x0 x2_0 x4_0 x4_1 x29 x30 x31 := by kernel_rfl
theorem impl_isObject_at_impl_heads_1.G14_0 {avs : List AV} {H : List HE} : impl_isObject_at_impl_heads_1.G14 0 avs H = none := by unfold impl_isObject_at_impl_heads_1.G14; split <;> rfl
theorem impl_isObject_at_impl_heads_1.G14_s (k : Nat) {avs : List AV} {H : List HE} {x : Bool} (h : impl_isObject_at_impl_heads_1.G14 (k + 1) avs H = some x) : fromPt Tryd.prog impl_isObject_at_impl_heads_1.E k impl_isObject_at_impl_heads_1.a (impl_isObject_at_impl_heads_1.G k) 1000 (bodyOf Tryd.prog 94) 14 avs H = some x := by
  unfold impl_isObject_at_impl_heads_1.G14 at h
  split at h
  · rw [← h]; exact impl_isObject_at_impl_heads_1.eq14 _ _ _ _ _ _ _ _
  · cases h
theorem impl_isObject_at_impl_heads_1.E_ok : EnvOk Tryd.prog impl_isObject_at_impl_heads_1.E := ⟨⟨impl_size_string.sound, callable_of (by kernel_rfl)⟩, ⟨impl_within.sound, callable_of (by kernel_rfl)⟩, ⟨impl_heads_1.sound, callable_of (by kernel_rfl)⟩, trivial⟩
theorem impl_isObject_at_impl_heads_1.sound : Sound Tryd.prog 94 impl_isObject_at_impl_heads_1.s := by
  refine func_sound (f := impl_isObject_at_impl_heads_1.a) (G := impl_isObject_at_impl_heads_1.G) (fn := Tryd.f94) (body := bodyOf Tryd.prog 94) 1000 (by kernel_rfl) impl_isObject_at_impl_heads_1.E_ok Tryd.func94 (by kernel_rfl) (by kernel_rfl) (by kernel_rfl) (ptsOk_of (by kernel_rfl)) ?_ ?_ ?_ ?_
  · intro r H x h
    unfold impl_isObject_at_impl_heads_1.a at h
    simp only at h
    split at h
    · cases h; rfl
    · cases h
  · exact fun q avs H => pick1_none impl_isObject_at_impl_heads_1.G14_0 (rfl)
  · intro k q pt avs H x _ h
    rcases pick1_some h with ⟨rfl, h⟩ | h
    · exact impl_isObject_at_impl_heads_1.G14_s _ h
    cases h
  · intro k avs H o h
    try dsimp only at h
    split at h
    · cases h; exact impl_isObject_at_impl_heads_1.eq _ _ _ _ _
    · cases h

def impl_heads.p24 : Nat → List ByteArray → Int → List Int → List Int → Int → Int → Option (List Int × Bool)
 | 0, _, _, _, _, _, _ => none
 | k + 1, x0, x3_0, x3_1, x6_0, x36, x37 => (if x37 < x36 then (if 0 ≤ x37 then (if x37 < (x6_0.length : Int) then ((impl_youngObject.f x0 x3_0 x3_1 (rd x6_0 x37)).bind fun t5 => ((impl_isObject_at_impl_heads_1.f k x0 t5.1 t5.2 x6_0).bind fun t6 => (if t6 = true then (impl_heads.p24 k x0 x3_0 x3_1 x6_0 x36 (wrap64 (x37 + 1))) else (some (([] : List Int), false))))) else none) else none) else (some (x6_0, true)))
def impl_heads.f (k : Nat) (a0 : List ByteArray) (a1_0 : Int) (a1_1 : List Int) : Option (List Int × Bool) := ((impl_TypesOk.f k a0).bind fun t1 => (if t1 = true then ((impl_within.f a1_0 2 400).bind fun t2 => (if t2 = true then ((impl_size_int64.f a1_1).bind fun t3 => (if t3 > a1_0 then (some (([] : List Int), false)) else ((impl_starts.f k a0 a1_0 a1_1).bind fun t4 => (if t4.2 = true then (impl_heads.p24 k a0 a1_0 a1_1 t4.1 (t4.1.length : Int) 0) else (some (([] : List Int), false)))))) else (some (([] : List Int), false)))) else (some (([] : List Int), false))))
def impl_heads.a : FnA (List Int × Bool) := ⟨51, [.tmp 4, .tmp 5], .tup [.row 2 (.int .i64), .bool], [], [⟨24, [0, 3, 6, 35, 36, 37], [.con .str, .box [.val, .con (.int .i64)], .box [.row 2 (.int .i64)], .row 2 (.int .i64), .val, .val], []⟩], fun x H => match x, H with
  | .tup [.own 0, .bs false r_1], [.row 2 (.int .i64) r_0] => some (r_0, r_1)
  | _, _ => none⟩
def impl_heads.s : Spec := mkS [.con .str, .agg [.val, .con (.int .i64)]] (fun k avs H => match avs, H with
  | [.con .str a0, .agg [.v (.int .i64 a1_0), .con (.int .i64) a1_1]], [] => some (impl_heads.f k a0 a1_0 a1_1)
  | _, _ => none) (fun r => (.tup [.own 0, .bs false r.2], [.row 2 (.int .i64) r.1]))
def impl_heads.E : Env := [((92, []), impl_TypesOk.s), ((69, []), impl_within.s), ((71, []), impl_size_int64.s), ((93, []), impl_starts.s), ((66, []), impl_youngObject.s), ((94, [95]), impl_isObject_at_impl_heads_1.s)]
def impl_heads.G24 (k : Nat) (avs : List AV) (H : List HE) : Option (List Int × Bool) := match avs, H with
  | [.con .str x0, .box 0 0, .box 1 0, .own 2, .v (.int .i64 x36), .v (.int .i64 x37)], [.box [.v (.int .i64 x3_0), .con (.int .i64) x3_1], .box [.own 2], .row 2 (.int .i64) x6_0] => impl_heads.p24 k x0 x3_0 x3_1 x6_0 x36 x37
  | _, _ => none
def impl_heads.G (k p : Nat) (avs : List AV) (H : List HE) : Option (List Int × Bool) := (pick1 24 (impl_heads.G24 k avs H) none p)
set_option maxRecDepth 100000 in
theorem impl_heads.eq (k : Nat) (a0 : List ByteArray) (a1_0 : Int) (a1_1 : List Int) : fromTop Tryd.prog impl_heads.E k impl_heads.a (impl_heads.G k) 1000 (bodyOf Tryd.prog 60) [.con .str a0, .agg [.v (.int .i64 a1_0), .con (.int .i64) a1_1]] [] = impl_heads.f k a0 a1_0 a1_1 := by kernel_rfl
set_option maxRecDepth 100000 in
theorem impl_heads.eq24 (k : Nat) (x0 : List ByteArray) (x3_0 : Int) (x3_1 : List Int) (x6_0 : List Int) (x36 : Int) (x37 : Int) : fromPt Tryd.prog impl_heads.E k impl_heads.a (impl_heads.G k) 1000 (bodyOf Tryd.prog 60) 24 [.con .str x0, .box 0 0, .box 1 0, .own 2, .v (.int .i64 x36), .v (.int .i64 x37)] [.box [.v (.int .i64 x3_0), .con (.int .i64) x3_1], .box [.own 2], .row 2 (.int .i64) x6_0] = impl_heads.p24 (k + 1) x0 x3_0 x3_1 x6_0 x36 x37 := by kernel_rfl
theorem impl_heads.G24_0 {avs : List AV} {H : List HE} : impl_heads.G24 0 avs H = none := by unfold impl_heads.G24; split <;> rfl
theorem impl_heads.G24_s (k : Nat) {avs : List AV} {H : List HE} {x : List Int × Bool} (h : impl_heads.G24 (k + 1) avs H = some x) : fromPt Tryd.prog impl_heads.E k impl_heads.a (impl_heads.G k) 1000 (bodyOf Tryd.prog 60) 24 avs H = some x := by
  unfold impl_heads.G24 at h
  split at h
  · rw [← h]; exact impl_heads.eq24 _ _ _ _ _ _ _
  · cases h
theorem impl_heads.E_ok : EnvOk Tryd.prog impl_heads.E := ⟨⟨impl_TypesOk.sound, callable_of (by kernel_rfl)⟩, ⟨impl_within.sound, callable_of (by kernel_rfl)⟩, ⟨impl_size_int64.sound, callable_of (by kernel_rfl)⟩, ⟨impl_starts.sound, callable_of (by kernel_rfl)⟩, ⟨impl_youngObject.sound, callable_of (by kernel_rfl)⟩, ⟨impl_isObject_at_impl_heads_1.sound, callable_of (by kernel_rfl)⟩, trivial⟩
theorem impl_heads.sound : Sound Tryd.prog 60 impl_heads.s := by
  refine func_sound (f := impl_heads.a) (G := impl_heads.G) (fn := Tryd.f60) (body := bodyOf Tryd.prog 60) 1000 (by kernel_rfl) impl_heads.E_ok Tryd.func60 (by kernel_rfl) (by kernel_rfl) (by kernel_rfl) (ptsOk_of (by kernel_rfl)) ?_ ?_ ?_ ?_
  · intro r H x h
    unfold impl_heads.a at h
    simp only at h
    split at h
    · cases h; rfl
    · cases h
  · exact fun q avs H => pick1_none impl_heads.G24_0 (rfl)
  · intro k q pt avs H x _ h
    rcases pick1_some h with ⟨rfl, h⟩ | h
    · exact impl_heads.G24_s _ h
    cases h
  · intro k avs H o h
    try dsimp only at h
    split at h
    · cases h; exact impl_heads.eq _ _ _ _
    · cases h

def impl_ownNursery.f (a0_0 : Int) (a0_1 : List Int) : Option (Int × List Int) := ((slices_Clone_int64.f a0_1).bind fun t1 => (some (a0_0, t1)))
def impl_ownNursery.a : FnA (Int × List Int) := ⟨9, [.cell 2 30], .agg [.val, .row 2 (.int .i64)], [], [], fun x H => match x, H with
  | .agg [.v (.int .i64 r_0), .own 0], [.row 2 (.int .i64) r_1] => some (r_0, r_1)
  | _, _ => none⟩
def impl_ownNursery.s : Spec := mkS [.agg [.val, .con (.int .i64)]] (fun k avs H => match avs, H with
  | [.agg [.v (.int .i64 a0_0), .con (.int .i64) a0_1]], [] => some (impl_ownNursery.f a0_0 a0_1)
  | _, _ => none) (fun r => (.agg [.v (.int .i64 r.1), .own 0], [.row 2 (.int .i64) r.2]))
def impl_ownNursery.E : Env := [((97, []), slices_Clone_int64.s)]
def impl_ownNursery.G (k p : Nat) (avs : List AV) (H : List HE) : Option (Int × List Int) := none
set_option maxRecDepth 100000 in
theorem impl_ownNursery.eq (k : Nat) (a0_0 : Int) (a0_1 : List Int) : fromTop Tryd.prog impl_ownNursery.E k impl_ownNursery.a (impl_ownNursery.G k) 1000 (bodyOf Tryd.prog 72) [.agg [.v (.int .i64 a0_0), .con (.int .i64) a0_1]] [] = impl_ownNursery.f a0_0 a0_1 := by kernel_rfl
theorem impl_ownNursery.E_ok : EnvOk Tryd.prog impl_ownNursery.E := ⟨⟨slices_Clone_int64.sound, callable_of (by kernel_rfl)⟩, trivial⟩
theorem impl_ownNursery.sound : Sound Tryd.prog 72 impl_ownNursery.s := by
  refine func_sound (f := impl_ownNursery.a) (G := impl_ownNursery.G) (fn := Tryd.f72) (body := bodyOf Tryd.prog 72) 1000 (by kernel_rfl) impl_ownNursery.E_ok Tryd.func72 (by kernel_rfl) (by kernel_rfl) (by kernel_rfl) (ptsOk_of (by kernel_rfl)) ?_ ?_ ?_ ?_
  · intro r H x h
    unfold impl_ownNursery.a at h
    simp only at h
    split at h
    · cases h; rfl
    · cases h
  · intro q avs H; rfl
  · intro k q pt avs H x _ h; cases h
  · intro k avs H o h
    try dsimp only at h
    split at h
    · cases h; exact impl_ownNursery.eq _ _ _
    · cases h

mutual
def impl_YoungSet.p7 : Nat → List ByteArray → Int → Int → Int → Int → List Int → Int → List Int → Bool → Option (Int × List Int × Bool)
 | 0, _, _, _, _, _, _, _, _, _ => none
 | k + 1, x0, x2, x3, x4, x6_0, x6_1, x10_0, x12, x29 => (if x29 = true then (some (0, ([] : List Int), false)) else (if 0 ≤ (wrap64 (Int.tdiv x2 2)) then (if (wrap64 (Int.tdiv x2 2)) < (x6_1.length : Int) then (if 0 ≤ (wrap64 (Int.tdiv (rd x6_1 (wrap64 (Int.tdiv x2 2))) 4)) then (if (wrap64 (Int.tdiv (rd x6_1 (wrap64 (Int.tdiv x2 2))) 4)) < (x0.length : Int) then ((impl_within.f x3 0 (wrap64 (((rdOf ByteArray.empty x0 (wrap64 (Int.tdiv (rd x6_1 (wrap64 (Int.tdiv x2 2))) 4))).size : Int) - 1))).bind fun t4 => (if t4 = true then (if 0 ≤ x3 then (if x3 < ((rdOf ByteArray.empty x0 (wrap64 (Int.tdiv (rd x6_1 (wrap64 (Int.tdiv x2 2))) 4))).size : Int) then (if (byteAt (rdOf ByteArray.empty x0 (wrap64 (Int.tdiv (rd x6_1 (wrap64 (Int.tdiv x2 2))) 4))) x3) = 114 then ((impl_isRef.f k x4 x12).bind fun t5 => (impl_YoungSet.p17 k x2 x3 x4 x6_0 x6_1 x10_0 (!t5))) else (impl_YoungSet.p17 k x2 x3 x4 x6_0 x6_1 x10_0 false)) else none) else none) else (impl_YoungSet.p17 k x2 x3 x4 x6_0 x6_1 x10_0 true))) else none) else none) else none) else none))
def impl_YoungSet.p17 : Nat → Int → Int → Int → Int → List Int → Int → Bool → Option (Int × List Int × Bool)
 | 0, _, _, _, _, _, _, _ => none
 | k + 1, x2, x3, x4, x6_0, x6_1, x10_0, x58 => (if x58 = true then (some (0, ([] : List Int), false)) else ((impl_ownNursery.f x6_0 x6_1).bind fun t3 => (if 0 ≤ (wrap64 ((wrap64 ((wrap64 (Int.tdiv x2 2)) + 1)) + x3)) then (if (wrap64 ((wrap64 ((wrap64 (Int.tdiv x2 2)) + 1)) + x3)) < (t3.2.length : Int) then (some (t3.1, (t3.2.set (wrap64 ((wrap64 ((wrap64 (Int.tdiv x2 2)) + 1)) + x3)).toNat x4), true)) else none) else none)))
end
def impl_YoungSet.f (k : Nat) (a0 : List ByteArray) (a1_0 : Int) (a1_1 : List Int) (a2 : Int) (a3 : Int) (a4 : Int) : Option (Int × List Int × Bool) := ((impl_heads.f k a0 a1_0 a1_1).bind fun t1 => (if t1.2 = true then ((impl_isHead.f k a2 t1.1).bind fun t2 => (impl_YoungSet.p7 k a0 a2 a3 a4 a1_0 a1_1 0 t1.1 (!t2))) else (impl_YoungSet.p7 k a0 a2 a3 a4 a1_0 a1_1 0 t1.1 true)))
def impl_YoungSet.a : FnA (Int × List Int × Bool) := ⟨72, [.cell 10 30, .tmp 11], .tup [.agg [.val, .row 2 (.int .i64)], .bool], [], [⟨7, [0, 2, 3, 4, 6, 10, 12, 29], [.con .str, .val, .val, .val, .box [.val, .con (.int .i64)], .box [.val, .val], .row 2 (.int .i64), .bool], []⟩, ⟨17, [2, 3, 4, 6, 10, 58], [.val, .val, .val, .box [.val, .con (.int .i64)], .box [.val, .val], .bool], []⟩], fun x H => match x, H with
  | .tup [.agg [.v (.int .i64 r_0_0), .own 0], .bs false r_1], [.row 2 (.int .i64) r_0_1] => some (r_0_0, r_0_1, r_1)
  | _, _ => none⟩
def impl_YoungSet.s : Spec := mkS [.con .str, .agg [.val, .con (.int .i64)], .val, .val, .val] (fun k avs H => match avs, H with
  | [.con .str a0, .agg [.v (.int .i64 a1_0), .con (.int .i64) a1_1], .v (.int .i64 a2), .v (.int .i64 a3), .v (.int .i64 a4)], [] => some (impl_YoungSet.f k a0 a1_0 a1_1 a2 a3 a4)
  | _, _ => none) (fun r => (.tup [.agg [.v (.int .i64 r.1), .own 0], .bs false r.2.2], [.row 2 (.int .i64) r.2.1]))
def impl_YoungSet.E : Env := [((60, []), impl_heads.s), ((65, []), impl_isHead.s), ((72, []), impl_ownNursery.s), ((69, []), impl_within.s), ((74, []), impl_isRef.s)]
def impl_YoungSet.G7 (k : Nat) (avs : List AV) (H : List HE) : Option (Int × List Int × Bool) := match avs, H with
  | [.con .str x0, .v (.int .i64 x2), .v (.int .i64 x3), .v (.int .i64 x4), .box 0 0, .box 1 0, .own 2, .bs false x29], [.box [.v (.int .i64 x6_0), .con (.int .i64) x6_1], .box [.v (.int .i64 x10_0), .v (.slice none 0 0)], .row 2 (.int .i64) x12] => impl_YoungSet.p7 k x0 x2 x3 x4 x6_0 x6_1 x10_0 x12 x29
  | _, _ => none
def impl_YoungSet.G17 (k : Nat) (avs : List AV) (H : List HE) : Option (Int × List Int × Bool) := match avs, H with
  | [.v (.int .i64 x2), .v (.int .i64 x3), .v (.int .i64 x4), .box 0 0, .box 1 0, .bs false x58], [.box [.v (.int .i64 x6_0), .con (.int .i64) x6_1], .box [.v (.int .i64 x10_0), .v (.slice none 0 0)]] => impl_YoungSet.p17 k x2 x3 x4 x6_0 x6_1 x10_0 x58
  | _, _ => none
def impl_YoungSet.G (k p : Nat) (avs : List AV) (H : List HE) : Option (Int × List Int × Bool) := (pick1 7 (impl_YoungSet.G7 k avs H) (pick1 17 (impl_YoungSet.G17 k avs H) none p) p)
set_option maxRecDepth 100000 in
theorem impl_YoungSet.eq (k : Nat) (a0 : List ByteArray) (a1_0 : Int) (a1_1 : List Int) (a2 : Int) (a3 : Int) (a4 : Int) : fromTop Tryd.prog impl_YoungSet.E k impl_YoungSet.a (impl_YoungSet.G k) 1000 (bodyOf Tryd.prog 42) [.con .str a0, .agg [.v (.int .i64 a1_0), .con (.int .i64) a1_1], .v (.int .i64 a2), .v (.int .i64 a3), .v (.int .i64 a4)] [] = impl_YoungSet.f k a0 a1_0 a1_1 a2 a3 a4 := by kernel_rfl
set_option maxRecDepth 100000 in
theorem impl_YoungSet.eq7 (k : Nat) (x0 : List ByteArray) (x2 : Int) (x3 : Int) (x4 : Int) (x6_0 : Int) (x6_1 : List Int) (x10_0 : Int) (x12 : List Int) (x29 : Bool) : fromPt Tryd.prog impl_YoungSet.E k impl_YoungSet.a (impl_YoungSet.G k) 1000 (bodyOf Tryd.prog 42) 7 [.con .str x0, .v (.int .i64 x2), .v (.int .i64 x3), .v (.int .i64 x4), .box 0 0, .box 1 0, .own 2, .bs false x29] [.box [.v (.int .i64 x6_0), .con (.int .i64) x6_1], .box [.v (.int .i64 x10_0), .v (.slice none 0 0)], .row 2 (.int .i64) x12] = impl_YoungSet.p7 (k + 1) x0 x2 x3 x4 x6_0 x6_1 x10_0 x12 x29 := by kernel_rfl
theorem impl_YoungSet.G7_0 {avs : List AV} {H : List HE} : impl_YoungSet.G7 0 avs H = none := by unfold impl_YoungSet.G7; split <;> rfl
theorem impl_YoungSet.G7_s (k : Nat) {avs : List AV} {H : List HE} {x : Int × List Int × Bool} (h : impl_YoungSet.G7 (k + 1) avs H = some x) : fromPt Tryd.prog impl_YoungSet.E k impl_YoungSet.a (impl_YoungSet.G k) 1000 (bodyOf Tryd.prog 42) 7 avs H = some x := by
  unfold impl_YoungSet.G7 at h
  split at h
  · rw [← h]; exact impl_YoungSet.eq7 _ _ _ _ _ _ _ _ _ _
  · cases h
set_option maxRecDepth 100000 in
theorem impl_YoungSet.eq17 (k : Nat) (x2 : Int) (x3 : Int) (x4 : Int) (x6_0 : Int) (x6_1 : List Int) (x10_0 : Int) (x58 : Bool) : fromPt Tryd.prog impl_YoungSet.E k impl_YoungSet.a (impl_YoungSet.G k) 1000 (bodyOf Tryd.prog 42) 17 [.v (.int .i64 x2), .v (.int .i64 x3), .v (.int .i64 x4), .box 0 0, .box 1 0, .bs false x58] [.box [.v (.int .i64 x6_0), .con (.int .i64) x6_1], .box [.v (.int .i64 x10_0), .v (.slice none 0 0)]] = impl_YoungSet.p17 (k + 1) x2 x3 x4 x6_0 x6_1 x10_0 x58 := by kernel_rfl
theorem impl_YoungSet.G17_0 {avs : List AV} {H : List HE} : impl_YoungSet.G17 0 avs H = none := by unfold impl_YoungSet.G17; split <;> rfl
theorem impl_YoungSet.G17_s (k : Nat) {avs : List AV} {H : List HE} {x : Int × List Int × Bool} (h : impl_YoungSet.G17 (k + 1) avs H = some x) : fromPt Tryd.prog impl_YoungSet.E k impl_YoungSet.a (impl_YoungSet.G k) 1000 (bodyOf Tryd.prog 42) 17 avs H = some x := by
  unfold impl_YoungSet.G17 at h
  split at h
  · rw [← h]; exact impl_YoungSet.eq17 _ _ _ _ _ _ _ _
  · cases h
theorem impl_YoungSet.E_ok : EnvOk Tryd.prog impl_YoungSet.E := ⟨⟨impl_heads.sound, callable_of (by kernel_rfl)⟩, ⟨impl_isHead.sound, callable_of (by kernel_rfl)⟩, ⟨impl_ownNursery.sound, callable_of (by kernel_rfl)⟩, ⟨impl_within.sound, callable_of (by kernel_rfl)⟩, ⟨impl_isRef.sound, callable_of (by kernel_rfl)⟩, trivial⟩
theorem impl_YoungSet.sound : Sound Tryd.prog 42 impl_YoungSet.s := by
  refine func_sound (f := impl_YoungSet.a) (G := impl_YoungSet.G) (fn := Tryd.f42) (body := bodyOf Tryd.prog 42) 1000 (by kernel_rfl) impl_YoungSet.E_ok Tryd.func42 (by kernel_rfl) (by kernel_rfl) (by kernel_rfl) (ptsOk_of (by kernel_rfl)) ?_ ?_ ?_ ?_
  · intro r H x h
    unfold impl_YoungSet.a at h
    simp only at h
    split at h
    · cases h; rfl
    · cases h
  · exact fun q avs H => pick1_none impl_YoungSet.G7_0 (pick1_none impl_YoungSet.G17_0 (rfl))
  · intro k q pt avs H x _ h
    rcases pick1_some h with ⟨rfl, h⟩ | h
    · exact impl_YoungSet.G7_s _ h
    rcases pick1_some h with ⟨rfl, h⟩ | h
    · exact impl_YoungSet.G17_s _ h
    cases h
  · intro k avs H o h
    try dsimp only at h
    split at h
    · cases h; exact impl_YoungSet.eq _ _ _ _ _ _ _
    · cases h

def laws_sameInts.p14 : Nat → List Int → List Int → Int → Option (Bool)
 | 0, _, _, _ => none
 | k + 1, x0, x1, x5 => (if x5 < (x0.length : Int) then (if 0 ≤ x5 then (if x5 < (x0.length : Int) then (if 0 ≤ x5 then (if x5 < (x1.length : Int) then (if (rd x0 x5) = (rd x1 x5) then (laws_sameInts.p14 k x0 x1 (wrap64 (x5 + 1))) else (some false)) else none) else none) else none) else none) else (some true))
def laws_sameInts.f (k : Nat) (a0 : List Int) (a1 : List Int) : Option (Bool) := (if (a0.length : Int) = (a1.length : Int) then (laws_sameInts.p14 k a0 a1 0) else (some false))
def laws_sameInts.a : FnA (Bool) := ⟨26, [.tmp 4], .bool, [], [⟨14, [0, 1, 5], [.con (.int .i64), .con (.int .i64), .val], []⟩], fun x H => match x, H with
  | .bs false r, [] => some r
  | _, _ => none⟩
def laws_sameInts.s : Spec := mkS [.con (.int .i64), .con (.int .i64)] (fun k avs H => match avs, H with
  | [.con (.int .i64) a0, .con (.int .i64) a1], [] => some (laws_sameInts.f k a0 a1)
  | _, _ => none) (fun r => (.bs false r, []))
def laws_sameInts.E : Env := []
def laws_sameInts.G14 (k : Nat) (avs : List AV) (H : List HE) : Option (Bool) := match avs, H with
  | [.con (.int .i64) x0, .con (.int .i64) x1, .v (.int .i64 x5)], [] => laws_sameInts.p14 k x0 x1 x5
  | _, _ => none
def laws_sameInts.G (k p : Nat) (avs : List AV) (H : List HE) : Option (Bool) := (pick1 14 (laws_sameInts.G14 k avs H) none p)
set_option maxRecDepth 100000 in
theorem laws_sameInts.eq (k : Nat) (a0 : List Int) (a1 : List Int) : fromTop Tryd.prog laws_sameInts.E k laws_sameInts.a (laws_sameInts.G k) 1000 (bodyOf Tryd.prog 48) [.con (.int .i64) a0, .con (.int .i64) a1] [] = laws_sameInts.f k a0 a1 := by kernel_rfl
set_option maxRecDepth 100000 in
theorem laws_sameInts.eq14 (k : Nat) (x0 : List Int) (x1 : List Int) (x5 : Int) : fromPt Tryd.prog laws_sameInts.E k laws_sameInts.a (laws_sameInts.G k) 1000 (bodyOf Tryd.prog 48) 14 [.con (.int .i64) x0, .con (.int .i64) x1, .v (.int .i64 x5)] [] = laws_sameInts.p14 (k + 1) x0 x1 x5 := by kernel_rfl
theorem laws_sameInts.G14_0 {avs : List AV} {H : List HE} : laws_sameInts.G14 0 avs H = none := by unfold laws_sameInts.G14; split <;> rfl
theorem laws_sameInts.G14_s (k : Nat) {avs : List AV} {H : List HE} {x : Bool} (h : laws_sameInts.G14 (k + 1) avs H = some x) : fromPt Tryd.prog laws_sameInts.E k laws_sameInts.a (laws_sameInts.G k) 1000 (bodyOf Tryd.prog 48) 14 avs H = some x := by
  unfold laws_sameInts.G14 at h
  split at h
  · rw [← h]; exact laws_sameInts.eq14 _ _ _ _
  · cases h
theorem laws_sameInts.E_ok : EnvOk Tryd.prog laws_sameInts.E := trivial
theorem laws_sameInts.sound : Sound Tryd.prog 48 laws_sameInts.s := by
  refine func_sound (f := laws_sameInts.a) (G := laws_sameInts.G) (fn := Tryd.f48) (body := bodyOf Tryd.prog 48) 1000 (by kernel_rfl) laws_sameInts.E_ok Tryd.func48 (by kernel_rfl) (by kernel_rfl) (by kernel_rfl) (ptsOk_of (by kernel_rfl)) ?_ ?_ ?_ ?_
  · intro r H x h
    unfold laws_sameInts.a at h
    simp only at h
    split at h
    · cases h; rfl
    · cases h
  · exact fun q avs H => pick1_none laws_sameInts.G14_0 (rfl)
  · intro k q pt avs H x _ h
    rcases pick1_some h with ⟨rfl, h⟩ | h
    · exact laws_sameInts.G14_s _ h
    cases h
  · intro k avs H o h
    try dsimp only at h
    split at h
    · cases h; exact laws_sameInts.eq _ _ _
    · cases h

def impl_YoungObject.f (k : Nat) (a0 : List ByteArray) (a1_0 : Int) (a1_1 : List Int) (a2 : Int) : Option (Int × List Int × Bool) := ((impl_heads.f k a0 a1_0 a1_1).bind fun t1 => (if t1.2 = true then ((impl_isHead.f k a2 t1.1).bind fun t2 => (if t2 = true then ((impl_youngObject.f a0 a1_0 a1_1 (wrap64 (Int.tdiv a2 2))).bind fun t3 => (some (t3.1, t3.2, true))) else (some (0, ([] : List Int), false)))) else (some (0, ([] : List Int), false))))
def impl_YoungObject.a : FnA (Int × List Int × Bool) := ⟨30, [.cell 6 40, .tmp 7], .tup [.agg [.val, .row 2 (.int .i64)], .bool], [], [], fun x H => match x, H with
  | .tup [.agg [.v (.int .i64 r_0_0), .own 0], .bs false r_1], [.row 2 (.int .i64) r_0_1] => some (r_0_0, r_0_1, r_1)
  | _, _ => none⟩
def impl_YoungObject.s : Spec := mkS [.con .str, .agg [.val, .con (.int .i64)], .val] (fun k avs H => match avs, H with
  | [.con .str a0, .agg [.v (.int .i64 a1_0), .con (.int .i64) a1_1], .v (.int .i64 a2)], [] => some (impl_YoungObject.f k a0 a1_0 a1_1 a2)
  | _, _ => none) (fun r => (.tup [.agg [.v (.int .i64 r.1), .own 0], .bs false r.2.2], [.row 2 (.int .i64) r.2.1]))
def impl_YoungObject.E : Env := [((60, []), impl_heads.s), ((65, []), impl_isHead.s), ((66, []), impl_youngObject.s)]
def impl_YoungObject.G (k p : Nat) (avs : List AV) (H : List HE) : Option (Int × List Int × Bool) := none
set_option maxRecDepth 100000 in
theorem impl_YoungObject.eq (k : Nat) (a0 : List ByteArray) (a1_0 : Int) (a1_1 : List Int) (a2 : Int) : fromTop Tryd.prog impl_YoungObject.E k impl_YoungObject.a (impl_YoungObject.G k) 1000 (bodyOf Tryd.prog 34) [.con .str a0, .agg [.v (.int .i64 a1_0), .con (.int .i64) a1_1], .v (.int .i64 a2)] [] = impl_YoungObject.f k a0 a1_0 a1_1 a2 := by kernel_rfl
theorem impl_YoungObject.E_ok : EnvOk Tryd.prog impl_YoungObject.E := ⟨⟨impl_heads.sound, callable_of (by kernel_rfl)⟩, ⟨impl_isHead.sound, callable_of (by kernel_rfl)⟩, ⟨impl_youngObject.sound, callable_of (by kernel_rfl)⟩, trivial⟩
theorem impl_YoungObject.sound : Sound Tryd.prog 34 impl_YoungObject.s := by
  refine func_sound (f := impl_YoungObject.a) (G := impl_YoungObject.G) (fn := Tryd.f34) (body := bodyOf Tryd.prog 34) 1000 (by kernel_rfl) impl_YoungObject.E_ok Tryd.func34 (by kernel_rfl) (by kernel_rfl) (by kernel_rfl) (ptsOk_of (by kernel_rfl)) ?_ ?_ ?_ ?_
  · intro r H x h
    unfold impl_YoungObject.a at h
    simp only at h
    split at h
    · cases h; rfl
    · cases h
  · intro q avs H; rfl
  · intro k q pt avs H x _ h; cases h
  · intro k avs H o h
    try dsimp only at h
    split at h
    · cases h; exact impl_YoungObject.eq _ _ _ _ _
    · cases h

def impl_NurseryOk.f (k : Nat) (a0 : List ByteArray) (a1_0 : Int) (a1_1 : List Int) : Option (Bool) := ((impl_heads.f k a0 a1_0 a1_1).bind fun t1 => (some t1.2))
def impl_NurseryOk.a : FnA (Bool) := ⟨14, [.tmp 4], .bool, [], [], fun x H => match x, H with
  | .bs false r, [] => some r
  | _, _ => none⟩
def impl_NurseryOk.s : Spec := mkS [.con .str, .agg [.val, .con (.int .i64)]] (fun k avs H => match avs, H with
  | [.con .str a0, .agg [.v (.int .i64 a1_0), .con (.int .i64) a1_1]], [] => some (impl_NurseryOk.f k a0 a1_0 a1_1)
  | _, _ => none) (fun r => (.bs false r, []))
def impl_NurseryOk.E : Env := [((60, []), impl_heads.s)]
def impl_NurseryOk.G (k p : Nat) (avs : List AV) (H : List HE) : Option (Bool) := none
set_option maxRecDepth 100000 in
theorem impl_NurseryOk.eq (k : Nat) (a0 : List ByteArray) (a1_0 : Int) (a1_1 : List Int) : fromTop Tryd.prog impl_NurseryOk.E k impl_NurseryOk.a (impl_NurseryOk.G k) 1000 (bodyOf Tryd.prog 21) [.con .str a0, .agg [.v (.int .i64 a1_0), .con (.int .i64) a1_1]] [] = impl_NurseryOk.f k a0 a1_0 a1_1 := by kernel_rfl
theorem impl_NurseryOk.E_ok : EnvOk Tryd.prog impl_NurseryOk.E := ⟨⟨impl_heads.sound, callable_of (by kernel_rfl)⟩, trivial⟩
theorem impl_NurseryOk.sound : Sound Tryd.prog 21 impl_NurseryOk.s := by
  refine func_sound (f := impl_NurseryOk.a) (G := impl_NurseryOk.G) (fn := Tryd.f21) (body := bodyOf Tryd.prog 21) 1000 (by kernel_rfl) impl_NurseryOk.E_ok Tryd.func21 (by kernel_rfl) (by kernel_rfl) (by kernel_rfl) (ptsOk_of (by kernel_rfl)) ?_ ?_ ?_ ?_
  · intro r H x h
    unfold impl_NurseryOk.a at h
    simp only at h
    split at h
    · cases h; rfl
    · cases h
  · intro q avs H; rfl
  · intro k q pt avs H x _ h; cases h
  · intro k avs H o h
    try dsimp only at h
    split at h
    · cases h; exact impl_NurseryOk.eq _ _ _ _
    · cases h

mutual
def laws_FnYoungSet.p19 : Nat → List ByteArray → Int → List Int → Int → Int → Int → Int → List Int → Bool → Int → List Int → Bool → Bool → Option (Bool)
 | 0, _, _, _, _, _, _, _, _, _, _, _, _, _ => none
 | k + 1, x3, x4_0, x4_1, x5, x6, x7, x8_0, x8_1, x9, x10_0, x10_1, x11, x58 => (if x58 = true then (if x9 = x11 then ((laws_sameInts.f k x8_1 x10_1).bind fun t7 => (some t7)) else (some false)) else ((impl_YoungObject.f k x3 x8_0 x8_1 x5).bind fun t8 => (laws_FnYoungSet.p32 k x3 x4_0 x4_1 x6 x7 x8_0 x8_1 t8.1 t8.2.1 t8.2.2 0 0)))
def laws_FnYoungSet.p32 : Nat → List ByteArray → Int → List Int → Int → Int → Int → List Int → Int → List Int → Bool → Int → Int → Option (Bool)
 | 0, _, _, _, _, _, _, _, _, _, _, _, _ => none
 | k + 1, x3, x4_0, x4_1, x6, x7, x8_0, x8_1, x12_0, x12_1, x13, x14, x15 => (if x15 < (x4_1.length : Int) then (if 0 ≤ x15 then (if x15 < (x4_1.length : Int) then (if 0 ≤ x15 then (if x15 < (x8_1.length : Int) then (if (rd x4_1 x15) = (rd x8_1 x15) then (laws_FnYoungSet.p32 k x3 x4_0 x4_1 x6 x7 x8_0 x8_1 x12_0 x12_1 x13 x14 (wrap64 (x15 + 1))) else (laws_FnYoungSet.p32 k x3 x4_0 x4_1 x6 x7 x8_0 x8_1 x12_0 x12_1 x13 (wrap64 (x14 + 1)) (wrap64 (x15 + 1)))) else none) else none) else none) else none) else (if x13 = true then (if x6 < (x12_1.length : Int) then (if 0 ≤ x6 then (if x6 < (x12_1.length : Int) then (if (rd x12_1 x6) = x7 then (if x14 ≤ 1 then (if (x8_1.length : Int) = (x4_1.length : Int) then ((impl_NurseryOk.f k x3 x8_0 x8_1).bind fun t6 => (if t6 = true then (some (decide (x8_0 = x4_0))) else (some false))) else (some false)) else (some false)) else (some false)) else none) else none) else (some false)) else (some false)))
end
def laws_FnYoungSet.f (k : Nat) (a0 : List Int) : Option (Bool) := ((laws_big.f a0).bind fun t1 => (if t1 = true then (some true) else ((spec_DrawYoungSet.f k a0).bind fun t2 => ((impl_YoungSet.f k t2.1 t2.2.1 t2.2.2.1 t2.2.2.2.1 t2.2.2.2.2.1 t2.2.2.2.2.2).bind fun t3 => ((spec_YoungSet.f k t2.1 t2.2.1 t2.2.2.1 t2.2.2.2.1 t2.2.2.2.2.1 t2.2.2.2.2.2).bind fun t4 => (if t3.2.2 = t4.2.2 then ((laws_sameInts.f k t3.2.1 t4.2.1).bind fun t5 => (if t5 = true then (laws_FnYoungSet.p19 k t2.1 t2.2.1 t2.2.2.1 t2.2.2.2.1 t2.2.2.2.2.1 t2.2.2.2.2.2 t3.1 t3.2.1 t3.2.2 t4.1 t4.2.1 t4.2.2 (!t3.2.2)) else (laws_FnYoungSet.p19 k t2.1 t2.2.1 t2.2.2.1 t2.2.2.2.1 t2.2.2.2.2.1 t2.2.2.2.2.2 t3.1 t3.2.1 t3.2.2 t4.1 t4.2.1 t4.2.2 true))) else (laws_FnYoungSet.p19 k t2.1 t2.2.1 t2.2.2.1 t2.2.2.2.1 t2.2.2.2.2.1 t2.2.2.2.2.2 t3.1 t3.2.1 t3.2.2 t4.1 t4.2.1 t4.2.2 true)))))))
def laws_FnYoungSet.a : FnA (Bool) := ⟨138, [.tmp 2], .bool, [], [⟨19, [3, 4, 5, 6, 7, 8, 9, 10, 11, 58], [.con .str, .box [.val, .row 2 (.int .i64)], .val, .val, .val, .box [.val, .row 2 (.int .i64)], .bool, .box [.val, .row 2 (.int .i64)], .bool, .bool], []⟩, ⟨32, [3, 4, 6, 7, 8, 12, 13, 14, 15], [.con .str, .box [.val, .row 2 (.int .i64)], .val, .val, .box [.val, .row 2 (.int .i64)], .box [.val, .row 2 (.int .i64)], .bool, .val, .val], []⟩], fun x H => match x, H with
  | .bs false r, [] => some r
  | _, _ => none⟩
def laws_FnYoungSet.s : Spec := mkS [.con (.int .u8)] (fun k avs H => match avs, H with
  | [.con (.int .u8) a0], [] => some (laws_FnYoungSet.f k a0)
  | _, _ => none) (fun r => (.bs false r, []))
def laws_FnYoungSet.E : Env := [((46, []), laws_big.s), ((49, []), spec_DrawYoungSet.s), ((42, []), impl_YoungSet.s), ((41, []), spec_YoungSet.s), ((48, []), laws_sameInts.s), ((21, []), impl_NurseryOk.s), ((34, []), impl_YoungObject.s)]
def laws_FnYoungSet.G19 (k : Nat) (avs : List AV) (H : List HE) : Option (Bool) := match avs, H with
  | [.con .str x3, .box 0 0, .v (.int .i64 x5), .v (.int .i64 x6), .v (.int .i64 x7), .box 2 0, .bs false x9, .box 4 0, .bs false x11, .bs false x58], [.box [.v (.int .i64 x4_0), .own 1], .row 2 (.int .i64) x4_1, .box [.v (.int .i64 x8_0), .own 3], .row 2 (.int .i64) x8_1, .box [.v (.int .i64 x10_0), .own 5], .row 2 (.int .i64) x10_1] => laws_FnYoungSet.p19 k x3 x4_0 x4_1 x5 x6 x7 x8_0 x8_1 x9 x10_0 x10_1 x11 x58
  | _, _ => none
def laws_FnYoungSet.G32 (k : Nat) (avs : List AV) (H : List HE) : Option (Bool) := match avs, H with
  | [.con .str x3, .box 0 0, .v (.int .i64 x6), .v (.int .i64 x7), .box 2 0, .box 4 0, .bs false x13, .v (.int .i64 x14), .v (.int .i64 x15)], [.box [.v (.int .i64 x4_0), .own 1], .row 2 (.int .i64) x4_1, .box [.v (.int .i64 x8_0), .own 3], .row 2 (.int .i64) x8_1, .box [.v (.int .i64 x12_0), .own 5], .row 2 (.int .i64) x12_1] => laws_FnYoungSet.p32 k x3 x4_0 x4_1 x6 x7 x8_0 x8_1 x12_0 x12_1 x13 x14 x15
  | _, _ => none
def laws_FnYoungSet.G (k p : Nat) (avs : List AV) (H : List HE) : Option (Bool) := (pick1 19 (laws_FnYoungSet.G19 k avs H) (pick1 32 (laws_FnYoungSet.G32 k avs H) none p) p)
set_option maxRecDepth 100000 in
theorem laws_FnYoungSet.eq (k : Nat) (a0 : List Int) : fromTop Tryd.prog laws_FnYoungSet.E k laws_FnYoungSet.a (laws_FnYoungSet.G k) 1000 (bodyOf Tryd.prog 11) [.con (.int .u8) a0] [] = laws_FnYoungSet.f k a0 := by kernel_rfl
set_option maxRecDepth 100000 in
theorem laws_FnYoungSet.eq19 (k : Nat) (x3 : List ByteArray) (x4_0 : Int) (x4_1 : List Int) (x5 : Int) (x6 : Int) (x7 : Int) (x8_0 : Int) (x8_1 : List Int) (x9 : Bool) (x10_0 : Int) (x10_1 : List Int) (x11 : Bool) (x58 : Bool) : fromPt Tryd.prog laws_FnYoungSet.E k laws_FnYoungSet.a (laws_FnYoungSet.G k) 1000 (bodyOf Tryd.prog 11) 19 [.con .str x3, .box 0 0, .v (.int .i64 x5), .v (.int .i64 x6), .v (.int .i64 x7), .box 2 0, .bs false x9, .box 4 0, .bs false x11, .bs false x58] [.box [.v (.int .i64 x4_0), .own 1], .row 2 (.int .i64) x4_1, .box [.v (.int .i64 x8_0), .own 3], .row 2 (.int .i64) x8_1, .box [.v (.int .i64 x10_0), .own 5], .row 2 (.int .i64) x10_1] = laws_FnYoungSet.p19 (k + 1) x3 x4_0 x4_1 x5 x6 x7 x8_0 x8_1 x9 x10_0 x10_1 x11 x58 := by kernel_rfl
theorem laws_FnYoungSet.G19_0 {avs : List AV} {H : List HE} : laws_FnYoungSet.G19 0 avs H = none := by unfold laws_FnYoungSet.G19; split <;> rfl
theorem laws_FnYoungSet.G19_s (k : Nat) {avs : List AV} {H : List HE} {x : Bool} (h : laws_FnYoungSet.G19 (k + 1) avs H = some x) : fromPt Tryd.prog laws_FnYoungSet.E k laws_FnYoungSet.a (laws_FnYoungSet.G k) 1000 (bodyOf Tryd.prog 11) 19 avs H = some x := by
  unfold laws_FnYoungSet.G19 at h
  split at h
  · rw [← h]; exact laws_FnYoungSet.eq19 _ _ _ _ _ _ _ _ _ _ _ _ _ _
  · cases h
set_option maxRecDepth 100000 in
theorem laws_FnYoungSet.eq32 (k : Nat) (x3 : List ByteArray) (x4_0 : Int) (x4_1 : List Int) (x6 : Int) (x7 : Int) (x8_0 : Int) (x8_1 : List Int) (x12_0 : Int) (x12_1 : List Int) (x13 : Bool) (x14 : Int) (x15 : Int) : fromPt Tryd.prog laws_FnYoungSet.E k laws_FnYoungSet.a (laws_FnYoungSet.G k) 1000 (bodyOf Tryd.prog 11) 32 [.con .str x3, .box 0 0, .v (.int .i64 x6), .v (.int .i64 x7), .box 2 0, .box 4 0, .bs false x13, .v (.int .i64 x14), .v (.int .i64 x15)] [.box [.v (.int .i64 x4_0), .own 1], .row 2 (.int .i64) x4_1, .box [.v (.int .i64 x8_0), .own 3], .row 2 (.int .i64) x8_1, .box [.v (.int .i64 x12_0), .own 5], .row 2 (.int .i64) x12_1] = laws_FnYoungSet.p32 (k + 1) x3 x4_0 x4_1 x6 x7 x8_0 x8_1 x12_0 x12_1 x13 x14 x15 := by kernel_rfl
theorem laws_FnYoungSet.G32_0 {avs : List AV} {H : List HE} : laws_FnYoungSet.G32 0 avs H = none := by unfold laws_FnYoungSet.G32; split <;> rfl
theorem laws_FnYoungSet.G32_s (k : Nat) {avs : List AV} {H : List HE} {x : Bool} (h : laws_FnYoungSet.G32 (k + 1) avs H = some x) : fromPt Tryd.prog laws_FnYoungSet.E k laws_FnYoungSet.a (laws_FnYoungSet.G k) 1000 (bodyOf Tryd.prog 11) 32 avs H = some x := by
  unfold laws_FnYoungSet.G32 at h
  split at h
  · rw [← h]; exact laws_FnYoungSet.eq32 _ _ _ _ _ _ _ _ _ _ _ _ _
  · cases h
theorem laws_FnYoungSet.E_ok : EnvOk Tryd.prog laws_FnYoungSet.E := ⟨⟨laws_big.sound, callable_of (by kernel_rfl)⟩, ⟨spec_DrawYoungSet.sound, callable_of (by kernel_rfl)⟩, ⟨impl_YoungSet.sound, callable_of (by kernel_rfl)⟩, ⟨spec_YoungSet.sound, callable_of (by kernel_rfl)⟩, ⟨laws_sameInts.sound, callable_of (by kernel_rfl)⟩, ⟨impl_NurseryOk.sound, callable_of (by kernel_rfl)⟩, ⟨impl_YoungObject.sound, callable_of (by kernel_rfl)⟩, trivial⟩
theorem laws_FnYoungSet.sound : Sound Tryd.prog 11 laws_FnYoungSet.s := by
  refine func_sound (f := laws_FnYoungSet.a) (G := laws_FnYoungSet.G) (fn := Tryd.f11) (body := bodyOf Tryd.prog 11) 1000 (by kernel_rfl) laws_FnYoungSet.E_ok Tryd.func11 (by kernel_rfl) (by kernel_rfl) (by kernel_rfl) (ptsOk_of (by kernel_rfl)) ?_ ?_ ?_ ?_
  · intro r H x h
    unfold laws_FnYoungSet.a at h
    simp only at h
    split at h
    · cases h; rfl
    · cases h
  · exact fun q avs H => pick1_none laws_FnYoungSet.G19_0 (pick1_none laws_FnYoungSet.G32_0 (rfl))
  · intro k q pt avs H x _ h
    rcases pick1_some h with ⟨rfl, h⟩ | h
    · exact laws_FnYoungSet.G19_s _ h
    rcases pick1_some h with ⟨rfl, h⟩ | h
    · exact laws_FnYoungSet.G32_s _ h
    cases h
  · intro k avs H o h
    try dsimp only at h
    split at h
    · cases h; exact laws_FnYoungSet.eq _ _
    · cases h
/-- What is left to show. -/
def laws_FnYoungSet.Pure : Prop := ∀ (l0 : List Int), l0.length ≤ maxLen → l0.length * 1 ≤ 140737488351232 → (∀ x ∈ l0, (Lit.int .u8 x).wf = true) → ∃ k, laws_FnYoungSet.f k l0 = some true
theorem laws_FnYoungSet.walk (p : laws_FnYoungSet.Pure) (a0 : Option Addr) (len0 cap0 : Nat) (z0 : List Int) (w : World) (w0 : (a0 = none ∧ len0 = 0 ∧ cap0 = 0 ∧ z0 = []) ∨ ∃ x, a0 = some x ∧ len0 ≤ cap0 ∧ cap0 ≤ maxLen ∧ z0.length = cap0 ∧ (∀ i, i < z0.length → w.cell? (x.add i) = some (.int .u8 (z0.getD i 0))) ∧ ∀ n ∈ z0, (Lit.int .u8 n).wf = true) (y0 : len0 * 1 ≤ 140737488351232) :
    Calls Tryd.prog 11 #[.slice a0 len0 cap0] w fun e w1 => e = .returned (.bool true) ∧ Below w.heap.size w w1 := law_bytes laws_FnYoungSet.sound (fun _ _ => rfl) p a0 len0 cap0 z0 w w0 y0

def spec_DrawYoungAlloc.f (k : Nat) (a0 : List Int) : Option (List ByteArray × Int × List Int × Int) := ((spec_l1Open.f a0).bind fun t1 => ((spec_l1Rd_types.f k t1.1 t1.2).bind fun t2 => ((spec_l1Rd_nursery.f k t2.1 t2.2.1 t2.2.2).bind fun t3 => ((spec_l1Rd_hurtNursery.f k t3.1 t3.2.1 t3.2.2.1 t3.2.2.2).bind fun t4 => ((spec_l1Rd_off.f k t4.1 t4.2.1 0 (wrap64 ((t2.2.2.length : Int) - 1))).bind fun t5 => (some (t2.2.2, t4.2.2.1, t4.2.2.2, t5.2.2)))))))
def spec_DrawYoungAlloc.a : FnA (List ByteArray × Int × List Int × Int) := ⟨24, [.tmp 2, .cell 3 30, .tmp 4], .tup [.con .str, .agg [.val, .row 2 (.int .i64)], .val], [], [], fun x H => match x, H with
  | .tup [.con .str r_0, .agg [.v (.int .i64 r_1_0), .own 0], .v (.int .i64 r_2)], [.row 2 (.int .i64) r_1_1] => some (r_0, r_1_0, r_1_1, r_2)
  | _, _ => none⟩
def spec_DrawYoungAlloc.s : Spec := mkS [.con (.int .u8)] (fun k avs H => match avs, H with
  | [.con (.int .u8) a0], [] => some (spec_DrawYoungAlloc.f k a0)
  | _, _ => none) (fun r => (.tup [.con .str r.1, .agg [.v (.int .i64 r.2.1), .own 0], .v (.int .i64 r.2.2.2)], [.row 2 (.int .i64) r.2.2.1]))
def spec_DrawYoungAlloc.E : Env := [((80, []), spec_l1Open.s), ((81, []), spec_l1Rd_types.s), ((83, []), spec_l1Rd_nursery.s), ((82, []), spec_l1Rd_hurtNursery.s), ((84, []), spec_l1Rd_off.s)]
def spec_DrawYoungAlloc.G (k p : Nat) (avs : List AV) (H : List HE) : Option (List ByteArray × Int × List Int × Int) := none
set_option maxRecDepth 100000 in
theorem spec_DrawYoungAlloc.eq (k : Nat) (a0 : List Int) : fromTop Tryd.prog spec_DrawYoungAlloc.E k spec_DrawYoungAlloc.a (spec_DrawYoungAlloc.G k) 1000 (bodyOf Tryd.prog 47) [.con (.int .u8) a0] [] = spec_DrawYoungAlloc.f k a0 := by kernel_rfl
theorem spec_DrawYoungAlloc.E_ok : EnvOk Tryd.prog spec_DrawYoungAlloc.E := ⟨⟨spec_l1Open.sound, callable_of (by kernel_rfl)⟩, ⟨spec_l1Rd_types.sound, callable_of (by kernel_rfl)⟩, ⟨spec_l1Rd_nursery.sound, callable_of (by kernel_rfl)⟩, ⟨spec_l1Rd_hurtNursery.sound, callable_of (by kernel_rfl)⟩, ⟨spec_l1Rd_off.sound, callable_of (by kernel_rfl)⟩, trivial⟩
theorem spec_DrawYoungAlloc.sound : Sound Tryd.prog 47 spec_DrawYoungAlloc.s := by
  refine func_sound (f := spec_DrawYoungAlloc.a) (G := spec_DrawYoungAlloc.G) (fn := Tryd.f47) (body := bodyOf Tryd.prog 47) 1000 (by kernel_rfl) spec_DrawYoungAlloc.E_ok Tryd.func47 (by kernel_rfl) (by kernel_rfl) (by kernel_rfl) (ptsOk_of (by kernel_rfl)) ?_ ?_ ?_ ?_
  · intro r H x h
    unfold spec_DrawYoungAlloc.a at h
    simp only at h
    split at h
    · cases h; rfl
    · cases h
  · intro q avs H; rfl
  · intro k q pt avs H x _ h; cases h
  · intro k avs H o h
    try dsimp only at h
    split at h
    · cases h; exact spec_DrawYoungAlloc.eq _ _
    · cases h

def impl_YoungRef.f (a0 : Int) : Option (Int) := ((impl_within.f a0 0 399).bind fun t1 => (if t1 = true then (some (wrap64 ((wrap64 (2 * a0)) + 1))) else (some 0)))
def impl_YoungRef.a : FnA (Int) := ⟨9, [.tmp 2], .val, [], [], fun x H => match x, H with
  | .v (.int .i64 r), [] => some r
  | _, _ => none⟩
def impl_YoungRef.s : Spec := mkS [.val] (fun k avs H => match avs, H with
  | [.v (.int .i64 a0)], [] => some (impl_YoungRef.f a0)
  | _, _ => none) (fun r => (.v (.int .i64 r), []))
def impl_YoungRef.E : Env := [((69, []), impl_within.s)]
def impl_YoungRef.G (k p : Nat) (avs : List AV) (H : List HE) : Option (Int) := none
set_option maxRecDepth 100000 in
theorem impl_YoungRef.eq (k : Nat) (a0 : Int) : fromTop Tryd.prog impl_YoungRef.E k impl_YoungRef.a (impl_YoungRef.G k) 1000 (bodyOf Tryd.prog 73) [.v (.int .i64 a0)] [] = impl_YoungRef.f a0 := by kernel_rfl
theorem impl_YoungRef.E_ok : EnvOk Tryd.prog impl_YoungRef.E := ⟨⟨impl_within.sound, callable_of (by kernel_rfl)⟩, trivial⟩
theorem impl_YoungRef.sound : Sound Tryd.prog 73 impl_YoungRef.s := by
  refine func_sound (f := impl_YoungRef.a) (G := impl_YoungRef.G) (fn := Tryd.f73) (body := bodyOf Tryd.prog 73) 1000 (by kernel_rfl) impl_YoungRef.E_ok Tryd.func73 (by kernel_rfl) (by kernel_rfl) (by kernel_rfl) (ptsOk_of (by kernel_rfl)) ?_ ?_ ?_ ?_
  · intro r H x h
    unfold impl_YoungRef.a at h
    simp only at h
    split at h
    · cases h; rfl
    · cases h
  · intro q avs H; rfl
  · intro k q pt avs H x _ h; cases h
  · intro k avs H o h
    try dsimp only at h
    split at h
    · cases h; exact impl_YoungRef.eq _ _
    · cases h

def impl_YoungAlloc.f (k : Nat) (a0 : List ByteArray) (a1_0 : Int) (a1_1 : List Int) (a2 : Int) : Option (Int × List Int × Int × Int) := ((impl_NurseryOk.f k a0 a1_0 a1_1).bind fun t1 => (if t1 = true then ((impl_size_string.f a0).bind fun t2 => ((impl_within.f a2 0 (wrap64 (t2 - 1))).bind fun t3 => (if t3 = true then ((impl_size_int64.f a1_1).bind fun t4 => (if 0 ≤ a2 then (if a2 < (a0.length : Int) then (if (wrap64 ((wrap64 (t4 + 1)) + ((rdOf ByteArray.empty a0 a2).size : Int))) > a1_0 then (some (0, ([] : List Int), 0, 3)) else ((impl_ownNursery.f a1_0 a1_1).bind fun t5 => (if t5.2.length + 1 ≤ 17592186044416 then (if 0 ≤ a2 then (if a2 < (a0.length : Int) then (if 0 ≤ ((rdOf ByteArray.empty a0 a2).size : Int) then (if (t5.2 ++ ([(wrap64 (4 * a2))] : List Int)).length + (List.replicate ((rdOf ByteArray.empty a0 a2).size : Int).toNat (0 : Int)).length ≤ 17592186044416 then ((impl_size_int64.f a1_1).bind fun t6 => ((impl_YoungRef.f t6).bind fun t7 => (some (t5.1, ((t5.2 ++ ([(wrap64 (4 * a2))] : List Int)) ++ (List.replicate ((rdOf ByteArray.empty a0 a2).size : Int).toNat (0 : Int))), t7, 0)))) else none) else none) else none) else none) else none))) else none) else none)) else (some (0, ([] : List Int), 0, 2))))) else (some (0, ([] : List Int), 0, 1))))
def impl_YoungAlloc.a : FnA (Int × List Int × Int × Int) := ⟨59, [.cell 6 30, .tmp 7, .tmp 8], .tup [.agg [.val, .row 2 (.int .i64)], .val, .val], [], [], fun x H => match x, H with
  | .tup [.agg [.v (.int .i64 r_0_0), .own 0], .v (.int .i64 r_1), .v (.int .i64 r_2)], [.row 2 (.int .i64) r_0_1] => some (r_0_0, r_0_1, r_1, r_2)
  | _, _ => none⟩
def impl_YoungAlloc.s : Spec := mkS [.con .str, .agg [.val, .con (.int .i64)], .val] (fun k avs H => match avs, H with
  | [.con .str a0, .agg [.v (.int .i64 a1_0), .con (.int .i64) a1_1], .v (.int .i64 a2)], [] => some (impl_YoungAlloc.f k a0 a1_0 a1_1 a2)
  | _, _ => none) (fun r => (.tup [.agg [.v (.int .i64 r.1), .own 0], .v (.int .i64 r.2.2.1), .v (.int .i64 r.2.2.2)], [.row 2 (.int .i64) r.2.1]))
def impl_YoungAlloc.E : Env := [((21, []), impl_NurseryOk.s), ((70, []), impl_size_string.s), ((69, []), impl_within.s), ((71, []), impl_size_int64.s), ((72, []), impl_ownNursery.s), ((73, []), impl_YoungRef.s)]
def impl_YoungAlloc.G (k p : Nat) (avs : List AV) (H : List HE) : Option (Int × List Int × Int × Int) := none
set_option maxRecDepth 100000 in
theorem impl_YoungAlloc.eq (k : Nat) (a0 : List ByteArray) (a1_0 : Int) (a1_1 : List Int) (a2 : Int) : fromTop Tryd.prog impl_YoungAlloc.E k impl_YoungAlloc.a (impl_YoungAlloc.G k) 1000 (bodyOf Tryd.prog 39) [.con .str a0, .agg [.v (.int .i64 a1_0), .con (.int .i64) a1_1], .v (.int .i64 a2)] [] = impl_YoungAlloc.f k a0 a1_0 a1_1 a2 := by kernel_rfl
theorem impl_YoungAlloc.E_ok : EnvOk Tryd.prog impl_YoungAlloc.E := ⟨⟨impl_NurseryOk.sound, callable_of (by kernel_rfl)⟩, ⟨impl_size_string.sound, callable_of (by kernel_rfl)⟩, ⟨impl_within.sound, callable_of (by kernel_rfl)⟩, ⟨impl_size_int64.sound, callable_of (by kernel_rfl)⟩, ⟨impl_ownNursery.sound, callable_of (by kernel_rfl)⟩, ⟨impl_YoungRef.sound, callable_of (by kernel_rfl)⟩, trivial⟩
theorem impl_YoungAlloc.sound : Sound Tryd.prog 39 impl_YoungAlloc.s := by
  refine func_sound (f := impl_YoungAlloc.a) (G := impl_YoungAlloc.G) (fn := Tryd.f39) (body := bodyOf Tryd.prog 39) 1000 (by kernel_rfl) impl_YoungAlloc.E_ok Tryd.func39 (by kernel_rfl) (by kernel_rfl) (by kernel_rfl) (ptsOk_of (by kernel_rfl)) ?_ ?_ ?_ ?_
  · intro r H x h
    unfold impl_YoungAlloc.a at h
    simp only at h
    split at h
    · cases h; rfl
    · cases h
  · intro q avs H; rfl
  · intro k q pt avs H x _ h; cases h
  · intro k avs H o h
    try dsimp only at h
    split at h
    · cases h; exact impl_YoungAlloc.eq _ _ _ _ _
    · cases h

def impl_Starts.f (k : Nat) (a0 : List ByteArray) (a1_0 : Int) (a1_1 : List Int) : Option (List Int) := ((impl_heads.f k a0 a1_0 a1_1).bind fun t1 => (some t1.1))
def impl_Starts.a : FnA (List Int) := ⟨14, [.tmp 4], .row 2 (.int .i64), [], [], fun x H => match x, H with
  | .own 0, [.row 2 (.int .i64) r] => some r
  | _, _ => none⟩
def impl_Starts.s : Spec := mkS [.con .str, .agg [.val, .con (.int .i64)]] (fun k avs H => match avs, H with
  | [.con .str a0, .agg [.v (.int .i64 a1_0), .con (.int .i64) a1_1]], [] => some (impl_Starts.f k a0 a1_0 a1_1)
  | _, _ => none) (fun r => (.own 0, [.row 2 (.int .i64) r]))
def impl_Starts.E : Env := [((60, []), impl_heads.s)]
def impl_Starts.G (k p : Nat) (avs : List AV) (H : List HE) : Option (List Int) := none
set_option maxRecDepth 100000 in
theorem impl_Starts.eq (k : Nat) (a0 : List ByteArray) (a1_0 : Int) (a1_1 : List Int) : fromTop Tryd.prog impl_Starts.E k impl_Starts.a (impl_Starts.G k) 1000 (bodyOf Tryd.prog 25) [.con .str a0, .agg [.v (.int .i64 a1_0), .con (.int .i64) a1_1]] [] = impl_Starts.f k a0 a1_0 a1_1 := by kernel_rfl
theorem impl_Starts.E_ok : EnvOk Tryd.prog impl_Starts.E := ⟨⟨impl_heads.sound, callable_of (by kernel_rfl)⟩, trivial⟩
theorem impl_Starts.sound : Sound Tryd.prog 25 impl_Starts.s := by
  refine func_sound (f := impl_Starts.a) (G := impl_Starts.G) (fn := Tryd.f25) (body := bodyOf Tryd.prog 25) 1000 (by kernel_rfl) impl_Starts.E_ok Tryd.func25 (by kernel_rfl) (by kernel_rfl) (by kernel_rfl) (ptsOk_of (by kernel_rfl)) ?_ ?_ ?_ ?_
  · intro r H x h
    unfold impl_Starts.a at h
    simp only at h
    split at h
    · cases h; rfl
    · cases h
  · intro q avs H; rfl
  · intro k q pt avs H x _ h; cases h
  · intro k avs H o h
    try dsimp only at h
    split at h
    · cases h; exact impl_Starts.eq _ _ _ _
    · cases h

mutual
def laws_FnAlloc.p19 : Nat → List ByteArray → Int → List Int → Int → Int → List Int → Int → Int → Int → List Int → Int → Int → Bool → Option (Bool)
 | 0, _, _, _, _, _, _, _, _, _, _, _, _, _ => none
 | k + 1, x3, x4_0, x4_1, x5, x6_0, x6_1, x7, x8, x9_0, x9_1, x10, x11, x66 => (if x66 = true then (if x8 = x11 then (if x7 = x10 then (if x6_0 = x9_0 then ((laws_sameInts.f k x6_1 x9_1).bind fun t11 => (some t11)) else (some false)) else (some false)) else (some false)) else ((impl_YoungObject.f k x3 x6_0 x6_1 x7).bind fun t12 => (laws_FnAlloc.p30 k x3 x4_0 x4_1 x5 x6_0 x6_1 t12.1 t12.2.1 t12.2.2 0)))
def laws_FnAlloc.p30 : Nat → List ByteArray → Int → List Int → Int → Int → List Int → Int → List Int → Bool → Int → Option (Bool)
 | 0, _, _, _, _, _, _, _, _, _, _ => none
 | k + 1, x3, x4_0, x4_1, x5, x6_0, x6_1, x12_0, x12_1, x13, x14 => (if x14 < (x12_1.length : Int) then (if 0 ≤ x14 then (if x14 < (x12_1.length : Int) then (if (rd x12_1 x14) = 0 then (laws_FnAlloc.p30 k x3 x4_0 x4_1 x5 x6_0 x6_1 x12_0 x12_1 x13 (wrap64 (x14 + 1))) else (some false)) else none) else none) else ((impl_Starts.f k x3 x6_0 x6_1).bind fun t6 => (if x13 = true then (if (t6.length : Int) > 0 then (if x12_0 = x5 then (if 0 ≤ (x4_1.length : Int) then (if (x4_1.length : Int) ≤ (x6_1.length : Int) then ((laws_sameInts.f k ((x6_1.take (x4_1.length : Int).toNat).drop 0) x4_1).bind fun t7 => (if t7 = true then ((impl_NurseryOk.f k x3 x6_0 x6_1).bind fun t8 => (if t8 = true then (if 0 ≤ (wrap64 ((t6.length : Int) - 1)) then (if (wrap64 ((t6.length : Int) - 1)) ≤ (t6.length : Int) then ((spec_Starts.f k x3 x4_0 x4_1).bind fun t9 => ((laws_sameInts.f k ((t6.take (wrap64 ((t6.length : Int) - 1)).toNat).drop 0) t9).bind fun t10 => (if t10 = true then (if 0 ≤ x5 then (if x5 < (x3.length : Int) then (some (decide ((x12_1.length : Int) = ((rdOf ByteArray.empty x3 x5).size : Int)))) else none) else none) else (some false)))) else none) else none) else (some false))) else (some false))) else none) else none) else (some false)) else (some false)) else (some false))))
end
def laws_FnAlloc.f (k : Nat) (a0 : List Int) : Option (Bool) := ((laws_big.f a0).bind fun t1 => (if t1 = true then (some true) else ((spec_DrawYoungAlloc.f k a0).bind fun t2 => ((impl_YoungAlloc.f k t2.1 t2.2.1 t2.2.2.1 t2.2.2.2).bind fun t3 => ((spec_YoungAlloc.f k t2.1 t2.2.1 t2.2.2.1 t2.2.2.2).bind fun t4 => (if t3.2.2.2 = t4.2.2.2 then (if t3.2.2.1 = t4.2.2.1 then (if t3.1 = t4.1 then ((laws_sameInts.f k t3.2.1 t4.2.1).bind fun t5 => (if t5 = true then (laws_FnAlloc.p19 k t2.1 t2.2.1 t2.2.2.1 t2.2.2.2 t3.1 t3.2.1 t3.2.2.1 t3.2.2.2 t4.1 t4.2.1 t4.2.2.1 t4.2.2.2 (!decide (t3.2.2.2 = 0))) else (laws_FnAlloc.p19 k t2.1 t2.2.1 t2.2.2.1 t2.2.2.2 t3.1 t3.2.1 t3.2.2.1 t3.2.2.2 t4.1 t4.2.1 t4.2.2.1 t4.2.2.2 true))) else (laws_FnAlloc.p19 k t2.1 t2.2.1 t2.2.2.1 t2.2.2.2 t3.1 t3.2.1 t3.2.2.1 t3.2.2.2 t4.1 t4.2.1 t4.2.2.1 t4.2.2.2 true)) else (laws_FnAlloc.p19 k t2.1 t2.2.1 t2.2.2.1 t2.2.2.2 t3.1 t3.2.1 t3.2.2.1 t3.2.2.2 t4.1 t4.2.1 t4.2.2.1 t4.2.2.2 true)) else (laws_FnAlloc.p19 k t2.1 t2.2.1 t2.2.2.1 t2.2.2.2 t3.1 t3.2.1 t3.2.2.1 t3.2.2.2 t4.1 t4.2.1 t4.2.2.1 t4.2.2.2 true)))))))
def laws_FnAlloc.a : FnA (Bool) := ⟨162, [.tmp 2], .bool, [], [⟨19, [3, 4, 5, 6, 7, 8, 9, 10, 11, 66], [.con .str, .box [.val, .row 2 (.int .i64)], .val, .box [.val, .row 2 (.int .i64)], .val, .val, .box [.val, .row 2 (.int .i64)], .val, .val, .bool], []⟩, ⟨30, [3, 4, 5, 6, 12, 13, 14], [.con .str, .box [.val, .row 2 (.int .i64)], .val, .box [.val, .row 2 (.int .i64)], .box [.val, .row 2 (.int .i64)], .bool, .val], []⟩], fun x H => match x, H with
  | .bs false r, [] => some r
  | _, _ => none⟩
def laws_FnAlloc.s : Spec := mkS [.con (.int .u8)] (fun k avs H => match avs, H with
  | [.con (.int .u8) a0], [] => some (laws_FnAlloc.f k a0)
  | _, _ => none) (fun r => (.bs false r, []))
def laws_FnAlloc.E : Env := [((46, []), laws_big.s), ((47, []), spec_DrawYoungAlloc.s), ((39, []), impl_YoungAlloc.s), ((38, []), spec_YoungAlloc.s), ((48, []), laws_sameInts.s), ((25, []), impl_Starts.s), ((21, []), impl_NurseryOk.s), ((24, []), spec_Starts.s), ((34, []), impl_YoungObject.s)]
def laws_FnAlloc.G19 (k : Nat) (avs : List AV) (H : List HE) : Option (Bool) := match avs, H with
  | [.con .str x3, .box 0 0, .v (.int .i64 x5), .box 2 0, .v (.int .i64 x7), .v (.int .i64 x8), .box 4 0, .v (.int .i64 x10), .v (.int .i64 x11), .bs false x66], [.box [.v (.int .i64 x4_0), .own 1], .row 2 (.int .i64) x4_1, .box [.v (.int .i64 x6_0), .own 3], .row 2 (.int .i64) x6_1, .box [.v (.int .i64 x9_0), .own 5], .row 2 (.int .i64) x9_1] => laws_FnAlloc.p19 k x3 x4_0 x4_1 x5 x6_0 x6_1 x7 x8 x9_0 x9_1 x10 x11 x66
  | _, _ => none
def laws_FnAlloc.G30 (k : Nat) (avs : List AV) (H : List HE) : Option (Bool) := match avs, H with
  | [.con .str x3, .box 0 0, .v (.int .i64 x5), .box 2 0, .box 4 0, .bs false x13, .v (.int .i64 x14)], [.box [.v (.int .i64 x4_0), .own 1], .row 2 (.int .i64) x4_1, .box [.v (.int .i64 x6_0), .own 3], .row 2 (.int .i64) x6_1, .box [.v (.int .i64 x12_0), .own 5], .row 2 (.int .i64) x12_1] => laws_FnAlloc.p30 k x3 x4_0 x4_1 x5 x6_0 x6_1 x12_0 x12_1 x13 x14
  | _, _ => none
def laws_FnAlloc.G (k p : Nat) (avs : List AV) (H : List HE) : Option (Bool) := (pick1 19 (laws_FnAlloc.G19 k avs H) (pick1 30 (laws_FnAlloc.G30 k avs H) none p) p)
set_option maxRecDepth 100000 in
theorem laws_FnAlloc.eq (k : Nat) (a0 : List Int) : fromTop Tryd.prog laws_FnAlloc.E k laws_FnAlloc.a (laws_FnAlloc.G k) 1000 (bodyOf Tryd.prog 10) [.con (.int .u8) a0] [] = laws_FnAlloc.f k a0 := by kernel_rfl
set_option maxRecDepth 100000 in
theorem laws_FnAlloc.eq19 (k : Nat) (x3 : List ByteArray) (x4_0 : Int) (x4_1 : List Int) (x5 : Int) (x6_0 : Int) (x6_1 : List Int) (x7 : Int) (x8 : Int) (x9_0 : Int) (x9_1 : List Int) (x10 : Int) (x11 : Int) (x66 : Bool) : fromPt Tryd.prog laws_FnAlloc.E k laws_FnAlloc.a (laws_FnAlloc.G k) 1000 (bodyOf Tryd.prog 10) 19 [.con .str x3, .box 0 0, .v (.int .i64 x5), .box 2 0, .v (.int .i64 x7), .v (.int .i64 x8), .box 4 0, .v (.int .i64 x10), .v (.int .i64 x11), .bs false x66] [.box [.v (.int .i64 x4_0), .own 1], .row 2 (.int .i64) x4_1, .box [.v (.int .i64 x6_0), .own 3], .row 2 (.int .i64) x6_1, .box [.v (.int .i64 x9_0), .own 5], .row 2 (.int .i64) x9_1] = laws_FnAlloc.p19 (k + 1) x3 x4_0 x4_1 x5 x6_0 x6_1 x7 x8 x9_0 x9_1 x10 x11 x66 := by kernel_rfl
theorem laws_FnAlloc.G19_0 {avs : List AV} {H : List HE} : laws_FnAlloc.G19 0 avs H = none := by unfold laws_FnAlloc.G19; split <;> rfl
theorem laws_FnAlloc.G19_s (k : Nat) {avs : List AV} {H : List HE} {x : Bool} (h : laws_FnAlloc.G19 (k + 1) avs H = some x) : fromPt Tryd.prog laws_FnAlloc.E k laws_FnAlloc.a (laws_FnAlloc.G k) 1000 (bodyOf Tryd.prog 10) 19 avs H = some x := by
  unfold laws_FnAlloc.G19 at h
  split at h
  · rw [← h]; exact laws_FnAlloc.eq19 _ _ _ _ _ _ _ _ _ _ _ _ _ _
  · cases h
set_option maxRecDepth 100000 in
theorem laws_FnAlloc.eq30 (k : Nat) (x3 : List ByteArray) (x4_0 : Int) (x4_1 : List Int) (x5 : Int) (x6_0 : Int) (x6_1 : List Int) (x12_0 : Int) (x12_1 : List Int) (x13 : Bool) (x14 : Int) : fromPt Tryd.prog laws_FnAlloc.E k laws_FnAlloc.a (laws_FnAlloc.G k) 1000 (bodyOf Tryd.prog 10) 30 [.con .str x3, .box 0 0, .v (.int .i64 x5), .box 2 0, .box 4 0, .bs false x13, .v (.int .i64 x14)] [.box [.v (.int .i64 x4_0), .own 1], .row 2 (.int .i64) x4_1, .box [.v (.int .i64 x6_0), .own 3], .row 2 (.int .i64) x6_1, .box [.v (.int .i64 x12_0), .own 5], .row 2 (.int .i64) x12_1] = laws_FnAlloc.p30 (k + 1) x3 x4_0 x4_1 x5 x6_0 x6_1 x12_0 x12_1 x13 x14 := by kernel_rfl
theorem laws_FnAlloc.G30_0 {avs : List AV} {H : List HE} : laws_FnAlloc.G30 0 avs H = none := by unfold laws_FnAlloc.G30; split <;> rfl
theorem laws_FnAlloc.G30_s (k : Nat) {avs : List AV} {H : List HE} {x : Bool} (h : laws_FnAlloc.G30 (k + 1) avs H = some x) : fromPt Tryd.prog laws_FnAlloc.E k laws_FnAlloc.a (laws_FnAlloc.G k) 1000 (bodyOf Tryd.prog 10) 30 avs H = some x := by
  unfold laws_FnAlloc.G30 at h
  split at h
  · rw [← h]; exact laws_FnAlloc.eq30 _ _ _ _ _ _ _ _ _ _ _
  · cases h
theorem laws_FnAlloc.E_ok : EnvOk Tryd.prog laws_FnAlloc.E := ⟨⟨laws_big.sound, callable_of (by kernel_rfl)⟩, ⟨spec_DrawYoungAlloc.sound, callable_of (by kernel_rfl)⟩, ⟨impl_YoungAlloc.sound, callable_of (by kernel_rfl)⟩, ⟨spec_YoungAlloc.sound, callable_of (by kernel_rfl)⟩, ⟨laws_sameInts.sound, callable_of (by kernel_rfl)⟩, ⟨impl_Starts.sound, callable_of (by kernel_rfl)⟩, ⟨impl_NurseryOk.sound, callable_of (by kernel_rfl)⟩, ⟨spec_Starts.sound, callable_of (by kernel_rfl)⟩, ⟨impl_YoungObject.sound, callable_of (by kernel_rfl)⟩, trivial⟩
theorem laws_FnAlloc.sound : Sound Tryd.prog 10 laws_FnAlloc.s := by
  refine func_sound (f := laws_FnAlloc.a) (G := laws_FnAlloc.G) (fn := Tryd.f10) (body := bodyOf Tryd.prog 10) 1000 (by kernel_rfl) laws_FnAlloc.E_ok Tryd.func10 (by kernel_rfl) (by kernel_rfl) (by kernel_rfl) (ptsOk_of (by kernel_rfl)) ?_ ?_ ?_ ?_
  · intro r H x h
    unfold laws_FnAlloc.a at h
    simp only at h
    split at h
    · cases h; rfl
    · cases h
  · exact fun q avs H => pick1_none laws_FnAlloc.G19_0 (pick1_none laws_FnAlloc.G30_0 (rfl))
  · intro k q pt avs H x _ h
    rcases pick1_some h with ⟨rfl, h⟩ | h
    · exact laws_FnAlloc.G19_s _ h
    rcases pick1_some h with ⟨rfl, h⟩ | h
    · exact laws_FnAlloc.G30_s _ h
    cases h
  · intro k avs H o h
    try dsimp only at h
    split at h
    · cases h; exact laws_FnAlloc.eq _ _
    · cases h
/-- What is left to show. -/
def laws_FnAlloc.Pure : Prop := ∀ (l0 : List Int), l0.length ≤ maxLen → l0.length * 1 ≤ 140737488351232 → (∀ x ∈ l0, (Lit.int .u8 x).wf = true) → ∃ k, laws_FnAlloc.f k l0 = some true
theorem laws_FnAlloc.walk (p : laws_FnAlloc.Pure) (a0 : Option Addr) (len0 cap0 : Nat) (z0 : List Int) (w : World) (w0 : (a0 = none ∧ len0 = 0 ∧ cap0 = 0 ∧ z0 = []) ∨ ∃ x, a0 = some x ∧ len0 ≤ cap0 ∧ cap0 ≤ maxLen ∧ z0.length = cap0 ∧ (∀ i, i < z0.length → w.cell? (x.add i) = some (.int .u8 (z0.getD i 0))) ∧ ∀ n ∈ z0, (Lit.int .u8 n).wf = true) (y0 : len0 * 1 ≤ 140737488351232) :
    Calls Tryd.prog 10 #[.slice a0 len0 cap0] w fun e w1 => e = .returned (.bool true) ∧ Below w.heap.size w w1 := law_bytes laws_FnAlloc.sound (fun _ _ => rfl) p a0 len0 cap0 z0 w w0 y0

end
end Go.Proofs.YtgfeafcgpeclcaaDoor.Abs
