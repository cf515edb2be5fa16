/- They are sound. (Merged out of this claim's own texts.) -/
import Derived.Test.YtlljkankongifaaGreatDoorBFnWalked4
import Derived.Shelf.Strings.SlTrimAscii
import Derived.Lib.Repeat
import Derived.Test.YtlljkankongifaaGreatDoorProg
namespace Go.Proofs.YtlljkankongifaaGreatDoor.Abs
open Go Go.RowKit
set_option linter.unusedVariables false
set_option linter.unusedSectionVars false
set_option linter.unusedSimpArgs false
noncomputable section
def laws_big.a : FnA (Bool) := ⟨6, [.tmp 2], .bool, [], [], fun x H => match x, H with
  | .bs false r, [] => some r
  | _, _ => none⟩
def laws_big.s : Spec := mkS [.con (.int .u8)] (fun k avs H => match avs, H with
  | [.con (.int .u8) a0], [] => some (laws_big.f a0)
  | _, _ => none) (fun r => (.bs false r, []))
def laws_big.E : Env := []
def laws_big.G (k p : Nat) (avs : List AV) (H : List HE) : Option (Bool) := none
set_option maxRecDepth 100000 in
theorem laws_big.eq (k : Nat) (a0 : List Int) : fromTop Tryz.prog laws_big.E k laws_big.a (laws_big.G k) 1000 (bodyOf Tryz.prog 24) [.con (.int .u8) a0] [] = laws_big.f a0 := by kernel_rfl
theorem laws_big.E_ok : EnvOk Tryz.prog laws_big.E := trivial
theorem laws_big.sound : Sound Tryz.prog 24 laws_big.s := by
  refine func_sound (f := laws_big.a) (G := laws_big.G) (fn := Tryz.f24) (body := bodyOf Tryz.prog 24) 1000 (by kernel_rfl) laws_big.E_ok Tryz.func24 (by kernel_rfl) (by kernel_rfl) (by kernel_rfl) (ptsOk_of (by kernel_rfl)) ?_ ?_ ?_ ?_
  · intro r H x h
    unfold laws_big.a at h
    simp only at h
    split at h
    · cases h; rfl
    · cases h
  · intro q avs H; rfl
  · intro k q pt avs H x _ h; cases h
  · intro k avs H o h
    try dsimp only at h
    split at h
    · cases h; exact laws_big.eq _ _
    · cases h

def spec_l1Open.a : FnA (List Int × Int) := ⟨6, [.tmp 2], .box [.con (.int .u8), .val], [], [], fun x H => match x, H with
  | .box 0 0, [.box [.con (.int .u8) r_0, .v (.int .i64 r_1)]] => some (r_0, r_1)
  | _, _ => none⟩
def spec_l1Open.s : Spec := mkS [.con (.int .u8)] (fun k avs H => match avs, H with
  | [.con (.int .u8) a0], [] => some (spec_l1Open.f a0)
  | _, _ => none) (fun r => (.box 0 0, [.box [.con (.int .u8) r.1, .v (.int .i64 r.2)]]))
def spec_l1Open.E : Env := []
def spec_l1Open.G (k p : Nat) (avs : List AV) (H : List HE) : Option (List Int × Int) := none
set_option maxRecDepth 100000 in
theorem spec_l1Open.eq (k : Nat) (a0 : List Int) : fromTop Tryz.prog spec_l1Open.E k spec_l1Open.a (spec_l1Open.G k) 1000 (bodyOf Tryz.prog 48) [.con (.int .u8) a0] [] = spec_l1Open.f a0 := by kernel_rfl
theorem spec_l1Open.E_ok : EnvOk Tryz.prog spec_l1Open.E := trivial
theorem spec_l1Open.sound : Sound Tryz.prog 48 spec_l1Open.s := by
  refine func_sound (f := spec_l1Open.a) (G := spec_l1Open.G) (fn := Tryz.f48) (body := bodyOf Tryz.prog 48) 1000 (by kernel_rfl) spec_l1Open.E_ok Tryz.func48 (by kernel_rfl) (by kernel_rfl) (by kernel_rfl) (ptsOk_of (by kernel_rfl)) ?_ ?_ ?_ ?_
  · intro r H x h
    unfold spec_l1Open.a at h
    simp only at h
    split at h
    · cases h; rfl
    · cases h
  · intro q avs H; rfl
  · intro k q pt avs H x _ h; cases h
  · intro k avs H o h
    try dsimp only at h
    split at h
    · cases h; exact spec_l1Open.eq _ _
    · cases h

def spec_l1Rd_next.a : FnA (List Int × Int × Int) := ⟨32, [.tmp 2], .val, [.box [.con (.int .u8), .val]], [], fun x H => match x, H with
  | .v (.int .i64 r), [.box [.con (.int .u8) h0_0, .v (.int .i64 h0_1)]] => some (h0_0, h0_1, r)
  | _, _ => none⟩
def spec_l1Rd_next.s : Spec := mkS [.box [.con (.int .u8), .val]] (fun k avs H => match avs, H with
  | [.box 0 0], [.box [.con (.int .u8) a0_0, .v (.int .i64 a0_1)]] => some (spec_l1Rd_next.f a0_0 a0_1)
  | _, _ => none) (fun r => (.v (.int .i64 r.2.2), [.box [.con (.int .u8) r.1, .v (.int .i64 r.2.1)]]))
def spec_l1Rd_next.E : Env := []
def spec_l1Rd_next.G (k p : Nat) (avs : List AV) (H : List HE) : Option (List Int × Int × Int) := none
set_option maxRecDepth 100000 in
theorem spec_l1Rd_next.eq (k : Nat) (a0_0 : List Int) (a0_1 : Int) : fromTop Tryz.prog spec_l1Rd_next.E k spec_l1Rd_next.a (spec_l1Rd_next.G k) 1000 (bodyOf Tryz.prog 92) [.box 0 0] [.box [.con (.int .u8) a0_0, .v (.int .i64 a0_1)]] = spec_l1Rd_next.f a0_0 a0_1 := by kernel_rfl
theorem spec_l1Rd_next.E_ok : EnvOk Tryz.prog spec_l1Rd_next.E := trivial
theorem spec_l1Rd_next.sound : Sound Tryz.prog 92 spec_l1Rd_next.s := by
  refine func_sound (f := spec_l1Rd_next.a) (G := spec_l1Rd_next.G) (fn := Tryz.f92) (body := bodyOf Tryz.prog 92) 1000 (by kernel_rfl) spec_l1Rd_next.E_ok Tryz.func92 (by kernel_rfl) (by kernel_rfl) (by kernel_rfl) (ptsOk_of (by kernel_rfl)) ?_ ?_ ?_ ?_
  · intro r H x h
    unfold spec_l1Rd_next.a at h
    simp only at h
    split at h
    · cases h; rfl
    · cases h
  · intro q avs H; rfl
  · intro k q pt avs H x _ h; cases h
  · intro k avs H o h
    try dsimp only at h
    split at h
    · cases h; exact spec_l1Rd_next.eq _ _ _
    · cases h

def spec_l1Rd_below.a : FnA (List Int × Int × Int) := ⟨24, [.tmp 4], .val, [.box [.con (.int .u8), .val]], [], fun x H => match x, H with
  | .v (.int .i64 r), [.box [.con (.int .u8) h0_0, .v (.int .i64 h0_1)]] => some (h0_0, h0_1, r)
  | _, _ => none⟩
def spec_l1Rd_below.s : Spec := mkS [.box [.con (.int .u8), .val], .val] (fun k avs H => match avs, H with
  | [.box 0 0, .v (.int .i64 a1)], [.box [.con (.int .u8) a0_0, .v (.int .i64 a0_1)]] => some (spec_l1Rd_below.f a0_0 a0_1 a1)
  | _, _ => none) (fun r => (.v (.int .i64 r.2.2), [.box [.con (.int .u8) r.1, .v (.int .i64 r.2.1)]]))
def spec_l1Rd_below.E : Env := [((92, []), spec_l1Rd_next.s)]
def spec_l1Rd_below.G (k p : Nat) (avs : List AV) (H : List HE) : Option (List Int × Int × Int) := none
set_option maxRecDepth 100000 in
theorem spec_l1Rd_below.eq (k : Nat) (a0_0 : List Int) (a0_1 : Int) (a1 : Int) : fromTop Tryz.prog spec_l1Rd_below.E k spec_l1Rd_below.a (spec_l1Rd_below.G k) 1000 (bodyOf Tryz.prog 52) [.box 0 0, .v (.int .i64 a1)] [.box [.con (.int .u8) a0_0, .v (.int .i64 a0_1)]] = spec_l1Rd_below.f a0_0 a0_1 a1 := by kernel_rfl
theorem spec_l1Rd_below.E_ok : EnvOk Tryz.prog spec_l1Rd_below.E := ⟨⟨spec_l1Rd_next.sound, callable_of (by kernel_rfl)⟩, trivial⟩
theorem spec_l1Rd_below.sound : Sound Tryz.prog 52 spec_l1Rd_below.s := by
  refine func_sound (f := spec_l1Rd_below.a) (G := spec_l1Rd_below.G) (fn := Tryz.f52) (body := bodyOf Tryz.prog 52) 1000 (by kernel_rfl) spec_l1Rd_below.E_ok Tryz.func52 (by kernel_rfl) (by kernel_rfl) (by kernel_rfl) (ptsOk_of (by kernel_rfl)) ?_ ?_ ?_ ?_
  · intro r H x h
    unfold spec_l1Rd_below.a at h
    simp only at h
    split at h
    · cases h; rfl
    · cases h
  · intro q avs H; rfl
  · intro k q pt avs H x _ h; cases h
  · intro k avs H o h
    try dsimp only at h
    split at h
    · cases h; exact spec_l1Rd_below.eq _ _ _ _
    · cases h

def spec_l1Rd_once.a : FnA (List Int × Int × Bool) := ⟨11, [.tmp 4], .bool, [.box [.con (.int .u8), .val]], [], fun x H => match x, H with
  | .bs false r, [.box [.con (.int .u8) h0_0, .v (.int .i64 h0_1)]] => some (h0_0, h0_1, r)
  | _, _ => none⟩
def spec_l1Rd_once.s : Spec := mkS [.box [.con (.int .u8), .val], .val] (fun k avs H => match avs, H with
  | [.box 0 0, .v (.int .i64 a1)], [.box [.con (.int .u8) a0_0, .v (.int .i64 a0_1)]] => some (spec_l1Rd_once.f a0_0 a0_1 a1)
  | _, _ => none) (fun r => (.bs false r.2.2, [.box [.con (.int .u8) r.1, .v (.int .i64 r.2.1)]]))
def spec_l1Rd_once.E : Env := [((52, []), spec_l1Rd_below.s)]
def spec_l1Rd_once.G (k p : Nat) (avs : List AV) (H : List HE) : Option (List Int × Int × Bool) := none
set_option maxRecDepth 100000 in
theorem spec_l1Rd_once.eq (k : Nat) (a0_0 : List Int) (a0_1 : Int) (a1 : Int) : fromTop Tryz.prog spec_l1Rd_once.E k spec_l1Rd_once.a (spec_l1Rd_once.G k) 1000 (bodyOf Tryz.prog 53) [.box 0 0, .v (.int .i64 a1)] [.box [.con (.int .u8) a0_0, .v (.int .i64 a0_1)]] = spec_l1Rd_once.f a0_0 a0_1 a1 := by kernel_rfl
theorem spec_l1Rd_once.E_ok : EnvOk Tryz.prog spec_l1Rd_once.E := ⟨⟨spec_l1Rd_below.sound, callable_of (by kernel_rfl)⟩, trivial⟩
theorem spec_l1Rd_once.sound : Sound Tryz.prog 53 spec_l1Rd_once.s := by
  refine func_sound (f := spec_l1Rd_once.a) (G := spec_l1Rd_once.G) (fn := Tryz.f53) (body := bodyOf Tryz.prog 53) 1000 (by kernel_rfl) spec_l1Rd_once.E_ok Tryz.func53 (by kernel_rfl) (by kernel_rfl) (by kernel_rfl) (ptsOk_of (by kernel_rfl)) ?_ ?_ ?_ ?_
  · intro r H x h
    unfold spec_l1Rd_once.a at h
    simp only at h
    split at h
    · cases h; rfl
    · cases h
  · intro q avs H; rfl
  · intro k q pt avs H x _ h; cases h
  · intro k avs H o h
    try dsimp only at h
    split at h
    · cases h; exact spec_l1Rd_once.eq _ _ _ _
    · cases h

def spec_l1Rd_kinds.a : FnA (List Int × Int × ByteArray) := ⟨23, [.tmp 4], .val, [.box [.con (.int .u8), .val]], [⟨8, [0, 5, 6], [.box [], .val, .val], [.box [.con (.int .u8), .val]]⟩], fun x H => match x, H with
  | .v (.string r), [.box [.con (.int .u8) h0_0, .v (.int .i64 h0_1)]] => some (h0_0, h0_1, r)
  | _, _ => none⟩
def spec_l1Rd_kinds.s : Spec := mkS [.box [.con (.int .u8), .val], .val] (fun k avs H => match avs, H with
  | [.box 0 0, .v (.int .i64 a1)], [.box [.con (.int .u8) a0_0, .v (.int .i64 a0_1)]] => some (spec_l1Rd_kinds.f k a0_0 a0_1 a1)
  | _, _ => none) (fun r => (.v (.string r.2.2), [.box [.con (.int .u8) r.1, .v (.int .i64 r.2.1)]]))
def spec_l1Rd_kinds.E : Env := [((52, []), spec_l1Rd_below.s)]
def spec_l1Rd_kinds.G8 (k : Nat) (avs : List AV) (H : List HE) : Option (List Int × Int × ByteArray) := match avs, H with
  | [.box 0 0, .v (.string x5), .v (.int .i64 x6)], [.box [.con (.int .u8) h0_0, .v (.int .i64 h0_1)]] => spec_l1Rd_kinds.p8 k h0_0 h0_1 x5 x6
  | _, _ => none
def spec_l1Rd_kinds.G (k p : Nat) (avs : List AV) (H : List HE) : Option (List Int × Int × ByteArray) := (pick1 8 (spec_l1Rd_kinds.G8 k avs H) none p)
set_option maxRecDepth 100000 in
theorem spec_l1Rd_kinds.eq (k : Nat) (a0_0 : List Int) (a0_1 : Int) (a1 : Int) : fromTop Tryz.prog spec_l1Rd_kinds.E k spec_l1Rd_kinds.a (spec_l1Rd_kinds.G k) 1000 (bodyOf Tryz.prog 113) [.box 0 0, .v (.int .i64 a1)] [.box [.con (.int .u8) a0_0, .v (.int .i64 a0_1)]] = spec_l1Rd_kinds.f k a0_0 a0_1 a1 := by kernel_rfl
set_option maxRecDepth 100000 in
theorem spec_l1Rd_kinds.eq8 (k : Nat) (h0_0 : List Int) (h0_1 : Int) (x5 : ByteArray) (x6 : Int) : fromPt Tryz.prog spec_l1Rd_kinds.E k spec_l1Rd_kinds.a (spec_l1Rd_kinds.G k) 1000 (bodyOf Tryz.prog 113) 8 [.box 0 0, .v (.string x5), .v (.int .i64 x6)] [.box [.con (.int .u8) h0_0, .v (.int .i64 h0_1)]] = spec_l1Rd_kinds.p8 (k + 1) h0_0 h0_1 x5 x6 := by kernel_rfl
theorem spec_l1Rd_kinds.G8_0 {avs : List AV} {H : List HE} : spec_l1Rd_kinds.G8 0 avs H = none := by unfold spec_l1Rd_kinds.G8; split <;> rfl
theorem spec_l1Rd_kinds.G8_s (k : Nat) {avs : List AV} {H : List HE} {x : List Int × Int × ByteArray} (h : spec_l1Rd_kinds.G8 (k + 1) avs H = some x) : fromPt Tryz.prog spec_l1Rd_kinds.E k spec_l1Rd_kinds.a (spec_l1Rd_kinds.G k) 1000 (bodyOf Tryz.prog 113) 8 avs H = some x := by
  unfold spec_l1Rd_kinds.G8 at h
  split at h
  · rw [← h]; exact spec_l1Rd_kinds.eq8 _ _ _ _ _
  · cases h
theorem spec_l1Rd_kinds.E_ok : EnvOk Tryz.prog spec_l1Rd_kinds.E := ⟨⟨spec_l1Rd_below.sound, callable_of (by kernel_rfl)⟩, trivial⟩
theorem spec_l1Rd_kinds.sound : Sound Tryz.prog 113 spec_l1Rd_kinds.s := by
  refine func_sound (f := spec_l1Rd_kinds.a) (G := spec_l1Rd_kinds.G) (fn := Tryz.f113) (body := bodyOf Tryz.prog 113) 1000 (by kernel_rfl) spec_l1Rd_kinds.E_ok Tryz.func113 (by kernel_rfl) (by kernel_rfl) (by kernel_rfl) (ptsOk_of (by kernel_rfl)) ?_ ?_ ?_ ?_
  · intro r H x h
    unfold spec_l1Rd_kinds.a at h
    simp only at h
    split at h
    · cases h; rfl
    · cases h
  · exact fun q avs H => pick1_none spec_l1Rd_kinds.G8_0 (rfl)
  · intro k q pt avs H x _ h
    rcases pick1_some h with ⟨rfl, h⟩ | h
    · exact spec_l1Rd_kinds.G8_s _ h
    cases h
  · intro k avs H o h
    try dsimp only at h
    split at h
    · cases h; exact spec_l1Rd_kinds.eq _ _ _ _
    · cases h

def spec_l1Rd_types.a : FnA (List Int × Int × List ByteArray) := ⟨27, [.tmp 2], .row 9 .str, [.box [.con (.int .u8), .val]], [⟨8, [0, 3, 4], [.box [], .row 9 .str, .val], [.box [.con (.int .u8), .val]]⟩], fun x H => match x, H with
  | .own 1, [.box [.con (.int .u8) h0_0, .v (.int .i64 h0_1)], .row 9 .str r] => some (h0_0, h0_1, r)
  | _, _ => none⟩
def spec_l1Rd_types.s : Spec := mkS [.box [.con (.int .u8), .val]] (fun k avs H => match avs, H with
  | [.box 0 0], [.box [.con (.int .u8) a0_0, .v (.int .i64 a0_1)]] => some (spec_l1Rd_types.f k a0_0 a0_1)
  | _, _ => none) (fun r => (.own 1, [.box [.con (.int .u8) r.1, .v (.int .i64 r.2.1)], .row 9 .str r.2.2]))
def spec_l1Rd_types.E : Env := [((52, []), spec_l1Rd_below.s), ((53, []), spec_l1Rd_once.s), ((113, []), spec_l1Rd_kinds.s)]
def spec_l1Rd_types.G8 (k : Nat) (avs : List AV) (H : List HE) : Option (List Int × Int × List ByteArray) := match avs, H with
  | [.box 0 0, .own 1, .v (.int .i64 x4)], [.box [.con (.int .u8) h0_0, .v (.int .i64 h0_1)], .row 9 .str x3] => spec_l1Rd_types.p8 k h0_0 h0_1 x3 x4
  | _, _ => none
def spec_l1Rd_types.G (k p : Nat) (avs : List AV) (H : List HE) : Option (List Int × Int × List ByteArray) := (pick1 8 (spec_l1Rd_types.G8 k avs H) none p)
set_option maxRecDepth 100000 in
theorem spec_l1Rd_types.eq (k : Nat) (a0_0 : List Int) (a0_1 : Int) : fromTop Tryz.prog spec_l1Rd_types.E k spec_l1Rd_types.a (spec_l1Rd_types.G k) 1000 (bodyOf Tryz.prog 81) [.box 0 0] [.box [.con (.int .u8) a0_0, .v (.int .i64 a0_1)]] = spec_l1Rd_types.f k a0_0 a0_1 := by kernel_rfl
set_option maxRecDepth 100000 in
theorem spec_l1Rd_types.eq8 (k : Nat) (h0_0 : List Int) (h0_1 : Int) (x3 : List ByteArray) (x4 : Int) : fromPt Tryz.prog spec_l1Rd_types.E k spec_l1Rd_types.a (spec_l1Rd_types.G k) 1000 (bodyOf Tryz.prog 81) 8 [.box 0 0, .own 1, .v (.int .i64 x4)] [.box [.con (.int .u8) h0_0, .v (.int .i64 h0_1)], .row 9 .str x3] = spec_l1Rd_types.p8 (k + 1) h0_0 h0_1 x3 x4 := by kernel_rfl
theorem spec_l1Rd_types.G8_0 {avs : List AV} {H : List HE} : spec_l1Rd_types.G8 0 avs H = none := by unfold spec_l1Rd_types.G8; split <;> rfl
theorem spec_l1Rd_types.G8_s (k : Nat) {avs : List AV} {H : List HE} {x : List Int × Int × List ByteArray} (h : spec_l1Rd_types.G8 (k + 1) avs H = some x) : fromPt Tryz.prog spec_l1Rd_types.E k spec_l1Rd_types.a (spec_l1Rd_types.G k) 1000 (bodyOf Tryz.prog 81) 8 avs H = some x := by
  unfold spec_l1Rd_types.G8 at h
  split at h
  · rw [← h]; exact spec_l1Rd_types.eq8 _ _ _ _ _
  · cases h
theorem spec_l1Rd_types.E_ok : EnvOk Tryz.prog spec_l1Rd_types.E := ⟨⟨spec_l1Rd_below.sound, callable_of (by kernel_rfl)⟩, ⟨spec_l1Rd_once.sound, callable_of (by kernel_rfl)⟩, ⟨spec_l1Rd_kinds.sound, callable_of (by kernel_rfl)⟩, trivial⟩
theorem spec_l1Rd_types.sound : Sound Tryz.prog 81 spec_l1Rd_types.s := by
  refine func_sound (f := spec_l1Rd_types.a) (G := spec_l1Rd_types.G) (fn := Tryz.f81) (body := bodyOf Tryz.prog 81) 1000 (by kernel_rfl) spec_l1Rd_types.E_ok Tryz.func81 (by kernel_rfl) (by kernel_rfl) (by kernel_rfl) (ptsOk_of (by kernel_rfl)) ?_ ?_ ?_ ?_
  · intro r H x h
    unfold spec_l1Rd_types.a at h
    simp only at h
    split at h
    · cases h; rfl
    · cases h
  · exact fun q avs H => pick1_none spec_l1Rd_types.G8_0 (rfl)
  · intro k q pt avs H x _ h
    rcases pick1_some h with ⟨rfl, h⟩ | h
    · exact spec_l1Rd_types.G8_s _ h
    cases h
  · intro k avs H o h
    try dsimp only at h
    split at h
    · cases h; exact spec_l1Rd_types.eq _ _ _
    · cases h

def spec_l1Rd_config.a : FnA (List Int × Int × Int × Int × Int × List ByteArray) := ⟨34, [.cell 2 29], .agg [.val, .val, .val, .row 9 .str], [.box [.con (.int .u8), .val]], [⟨16, [2, 3], [.box [.val, .val, .val, .val], .box [.val, .val, .val, .row 9 .str]], [.box [.con (.int .u8), .val]]⟩], fun x H => match x, H with
  | .agg [.v (.int .i64 r_0), .v (.int .i64 r_1), .v (.int .i64 r_2), .own 1], [.box [.con (.int .u8) h0_0, .v (.int .i64 h0_1)], .row 9 .str r_3] => some (h0_0, h0_1, r_0, r_1, r_2, r_3)
  | _, _ => none⟩
def spec_l1Rd_config.s : Spec := mkS [.box [.con (.int .u8), .val]] (fun k avs H => match avs, H with
  | [.box 0 0], [.box [.con (.int .u8) a0_0, .v (.int .i64 a0_1)]] => some (spec_l1Rd_config.f k a0_0 a0_1)
  | _, _ => none) (fun r => (.agg [.v (.int .i64 r.2.2.1), .v (.int .i64 r.2.2.2.1), .v (.int .i64 r.2.2.2.2.1), .own 1], [.box [.con (.int .u8) r.1, .v (.int .i64 r.2.1)], .row 9 .str r.2.2.2.2.2]))
def spec_l1Rd_config.E : Env := [((52, []), spec_l1Rd_below.s), ((81, []), spec_l1Rd_types.s), ((53, []), spec_l1Rd_once.s)]
def spec_l1Rd_config.G16 (k : Nat) (avs : List AV) (H : List HE) : Option (List Int × Int × Int × Int × Int × List ByteArray) := match avs, H with
  | [.box 1 0, .box 2 0], [.box [.con (.int .u8) h0_0, .v (.int .i64 h0_1)], .box [.v (.int .i64 x2_0), .v (.int .i64 x2_1), .v (.int .i64 x2_2), .v (.slice none 0 0)], .box [.v (.int .i64 x3_0), .v (.int .i64 x3_1), .v (.int .i64 x3_2), .own 3], .row 9 .str x3_3] => spec_l1Rd_config.p16 k h0_0 h0_1 x2_0 x2_1 x2_2 x3_0 x3_1 x3_2 x3_3
  | _, _ => none
def spec_l1Rd_config.G (k p : Nat) (avs : List AV) (H : List HE) : Option (List Int × Int × Int × Int × Int × List ByteArray) := (pick1 16 (spec_l1Rd_config.G16 k avs H) none p)
set_option maxRecDepth 100000 in
theorem spec_l1Rd_config.eq (k : Nat) (a0_0 : List Int) (a0_1 : Int) : fromTop Tryz.prog spec_l1Rd_config.E k spec_l1Rd_config.a (spec_l1Rd_config.G k) 1000 (bodyOf Tryz.prog 49) [.box 0 0] [.box [.con (.int .u8) a0_0, .v (.int .i64 a0_1)]] = spec_l1Rd_config.f k a0_0 a0_1 := by kernel_rfl
set_option maxRecDepth 100000 in
theorem spec_l1Rd_config.eq16 (k : Nat) (h0_0 : List Int) (h0_1 : Int) (x2_0 : Int) (x2_1 : Int) (x2_2 : Int) (x3_0 : Int) (x3_1 : Int) (x3_2 : Int) (x3_3 : List ByteArray) : fromPt Tryz.prog spec_l1Rd_config.E k spec_l1Rd_config.a (spec_l1Rd_config.G k) 1000 (bodyOf Tryz.prog 49) 16 [.box 1 0, .box 2 0] [.box [.con (.int .u8) h0_0, .v (.int .i64 h0_1)], .box [.v (.int .i64 x2_0), .v (.int .i64 x2_1), .v (.int .i64 x2_2), .v (.slice none 0 0)], .box [.v (.int .i64 x3_0), .v (.int .i64 x3_1), .v (.int .i64 x3_2), .own 3], .row 9 .str x3_3] = spec_l1Rd_config.p16 (k + 1) h0_0 h0_1 x2_0 x2_1 x2_2 x3_0 x3_1 x3_2 x3_3 := by kernel_rfl
theorem spec_l1Rd_config.G16_0 {avs : List AV} {H : List HE} : spec_l1Rd_config.G16 0 avs H = none := by unfold spec_l1Rd_config.G16; split <;> rfl
theorem spec_l1Rd_config.G16_s (k : Nat) {avs : List AV} {H : List HE} {x : List Int × Int × Int × Int × Int × List ByteArray} (h : spec_l1Rd_config.G16 (k + 1) avs H = some x) : fromPt Tryz.prog spec_l1Rd_config.E k spec_l1Rd_config.a (spec_l1Rd_config.G k) 1000 (bodyOf Tryz.prog 49) 16 avs H = some x := by
  unfold spec_l1Rd_config.G16 at h
  split at h
  · rw [← h]; exact spec_l1Rd_config.eq16 _ _ _ _ _ _ _ _ _ _
  · cases h
theorem spec_l1Rd_config.E_ok : EnvOk Tryz.prog spec_l1Rd_config.E := ⟨⟨spec_l1Rd_below.sound, callable_of (by kernel_rfl)⟩, ⟨spec_l1Rd_types.sound, callable_of (by kernel_rfl)⟩, ⟨spec_l1Rd_once.sound, callable_of (by kernel_rfl)⟩, trivial⟩
theorem spec_l1Rd_config.sound : Sound Tryz.prog 49 spec_l1Rd_config.s := by
  refine func_sound (f := spec_l1Rd_config.a) (G := spec_l1Rd_config.G) (fn := Tryz.f49) (body := bodyOf Tryz.prog 49) 1000 (by kernel_rfl) spec_l1Rd_config.E_ok Tryz.func49 (by kernel_rfl) (by kernel_rfl) (by kernel_rfl) (ptsOk_of (by kernel_rfl)) ?_ ?_ ?_ ?_
  · intro r H x h
    unfold spec_l1Rd_config.a at h
    simp only at h
    split at h
    · cases h; rfl
    · cases h
  · exact fun q avs H => pick1_none spec_l1Rd_config.G16_0 (rfl)
  · intro k q pt avs H x _ h
    rcases pick1_some h with ⟨rfl, h⟩ | h
    · exact spec_l1Rd_config.G16_s _ h
    cases h
  · intro k avs H o h
    try dsimp only at h
    split at h
    · cases h; exact spec_l1Rd_config.eq _ _ _
    · cases h

def spec_l1Rd_size.a : FnA (List Int × Int × Int) := ⟨24, [.tmp 6], .val, [.box [.con (.int .u8), .val]], [], fun x H => match x, H with
  | .v (.int .i64 r), [.box [.con (.int .u8) h0_0, .v (.int .i64 h0_1)]] => some (h0_0, h0_1, r)
  | _, _ => none⟩
def spec_l1Rd_size.s : Spec := mkS [.box [.con (.int .u8), .val], .val, .val] (fun k avs H => match avs, H with
  | [.box 0 0, .v (.int .i64 a1), .v (.int .i64 a2)], [.box [.con (.int .u8) a0_0, .v (.int .i64 a0_1)]] => some (spec_l1Rd_size.f a0_0 a0_1 a1 a2)
  | _, _ => none) (fun r => (.v (.int .i64 r.2.2), [.box [.con (.int .u8) r.1, .v (.int .i64 r.2.1)]]))
def spec_l1Rd_size.E : Env := [((52, []), spec_l1Rd_below.s)]
def spec_l1Rd_size.G (k p : Nat) (avs : List AV) (H : List HE) : Option (List Int × Int × Int) := none
set_option maxRecDepth 100000 in
theorem spec_l1Rd_size.eq (k : Nat) (a0_0 : List Int) (a0_1 : Int) (a1 : Int) (a2 : Int) : fromTop Tryz.prog spec_l1Rd_size.E k spec_l1Rd_size.a (spec_l1Rd_size.G k) 1000 (bodyOf Tryz.prog 114) [.box 0 0, .v (.int .i64 a1), .v (.int .i64 a2)] [.box [.con (.int .u8) a0_0, .v (.int .i64 a0_1)]] = spec_l1Rd_size.f a0_0 a0_1 a1 a2 := by kernel_rfl
theorem spec_l1Rd_size.E_ok : EnvOk Tryz.prog spec_l1Rd_size.E := ⟨⟨spec_l1Rd_below.sound, callable_of (by kernel_rfl)⟩, trivial⟩
theorem spec_l1Rd_size.sound : Sound Tryz.prog 114 spec_l1Rd_size.s := by
  refine func_sound (f := spec_l1Rd_size.a) (G := spec_l1Rd_size.G) (fn := Tryz.f114) (body := bodyOf Tryz.prog 114) 1000 (by kernel_rfl) spec_l1Rd_size.E_ok Tryz.func114 (by kernel_rfl) (by kernel_rfl) (by kernel_rfl) (ptsOk_of (by kernel_rfl)) ?_ ?_ ?_ ?_
  · intro r H x h
    unfold spec_l1Rd_size.a at h
    simp only at h
    split at h
    · cases h; rfl
    · cases h
  · intro q avs H; rfl
  · intro k q pt avs H x _ h; cases h
  · intro k avs H o h
    try dsimp only at h
    split at h
    · cases h; exact spec_l1Rd_size.eq _ _ _ _ _
    · cases h

def spec_l1Rd_graph.a : FnA (List Int × Int × List Int × List (Int × List Int)) := ⟨88, [.cell 8 41], .agg [.row 2 (.int .i64), .row 53 (.pair (.int .i64) (.sl (.int .i64)))], [.box [.con (.int .u8), .val]], [⟨10, [0, 1, 2, 8, 9, 10, 11], [.box [], .con .str, .val, .box [.val, .val], .box [.row 2 (.int .i64), .val], .val, .val], [.box [.con (.int .u8), .val]]⟩, ⟨33, [0, 1, 8, 9, 10, 13], [.box [], .con .str, .box [.val, .val], .box [.row 2 (.int .i64), .row 53 (.pair (.int .i64) (.sl (.int .i64)))], .val, .val], [.box [.con (.int .u8), .val]]⟩, ⟨48, [0, 1, 8, 9, 10, 13, 14, 15], [.box [], .con .str, .box [.val, .val], .box [.row 2 (.int .i64), .row 53 (.pair (.int .i64) (.sl (.int .i64)))], .val, .val, .box [.val, .row 2 (.int .i64)], .val], [.box [.con (.int .u8), .val]]⟩], fun x H => match x, H with
  | .agg [.own 1, .own 2], [.box [.con (.int .u8) h0_0, .v (.int .i64 h0_1)], .row 2 (.int .i64) r_0, .row 53 (.pair (.int .i64) (.sl (.int .i64))) r_1] => some (h0_0, h0_1, r_0, r_1)
  | _, _ => none⟩
def spec_l1Rd_graph.s : Spec := mkS [.box [.con (.int .u8), .val], .con .str, .val, .val] (fun k avs H => match avs, H with
  | [.box 0 0, .con .str a1, .v (.int .i64 a2), .v (.int .i64 a3)], [.box [.con (.int .u8) a0_0, .v (.int .i64 a0_1)]] => some (spec_l1Rd_graph.f k a0_0 a0_1 a1 a2 a3)
  | _, _ => none) (fun r => (.agg [.own 1, .own 2], [.box [.con (.int .u8) r.1, .v (.int .i64 r.2.1)], .row 2 (.int .i64) r.2.2.1, .row 53 (.pair (.int .i64) (.sl (.int .i64))) r.2.2.2]))
def spec_l1Rd_graph.E : Env := [((114, []), spec_l1Rd_size.s), ((53, []), spec_l1Rd_once.s), ((52, []), spec_l1Rd_below.s)]
def spec_l1Rd_graph.G10 (k : Nat) (avs : List AV) (H : List HE) : Option (List Int × Int × List Int × List (Int × List Int)) := match avs, H with
  | [.box 0 0, .con .str x1, .v (.int .i64 x2), .box 1 0, .box 2 0, .v (.int .i64 x10), .v (.int .i64 x11)], [.box [.con (.int .u8) h0_0, .v (.int .i64 h0_1)], .box [.v (.slice none 0 0), .v (.slice none 0 0)], .box [.own 3, .v (.slice none 0 0)], .row 2 (.int .i64) x9_0] => spec_l1Rd_graph.p10 k h0_0 h0_1 x1 x2 x9_0 x10 x11
  | _, _ => none
def spec_l1Rd_graph.G33 (k : Nat) (avs : List AV) (H : List HE) : Option (List Int × Int × List Int × List (Int × List Int)) := match avs, H with
  | [.box 0 0, .con .str x1, .box 1 0, .box 2 0, .v (.int .i64 x10), .v (.int .i64 x13)], [.box [.con (.int .u8) h0_0, .v (.int .i64 h0_1)], .box [.v (.slice none 0 0), .v (.slice none 0 0)], .box [.own 3, .own 4], .row 2 (.int .i64) x9_0, .row 53 (.pair (.int .i64) (.sl (.int .i64))) x9_1] => spec_l1Rd_graph.p33 k h0_0 h0_1 x1 x9_0 x9_1 x10 x13
  | _, _ => none
def spec_l1Rd_graph.G48 (k : Nat) (avs : List AV) (H : List HE) : Option (List Int × Int × List Int × List (Int × List Int)) := match avs, H with
  | [.box 0 0, .con .str x1, .box 1 0, .box 2 0, .v (.int .i64 x10), .v (.int .i64 x13), .box 5 0, .v (.int .i64 x15)], [.box [.con (.int .u8) h0_0, .v (.int .i64 h0_1)], .box [.v (.slice none 0 0), .v (.slice none 0 0)], .box [.own 3, .own 4], .row 2 (.int .i64) x9_0, .row 53 (.pair (.int .i64) (.sl (.int .i64))) x9_1, .box [.v (.int .i64 x14_0), .own 6], .row 2 (.int .i64) x14_1] => spec_l1Rd_graph.p48 k h0_0 h0_1 x1 x9_0 x9_1 x10 x13 x14_0 x14_1 x15
  | _, _ => none
def spec_l1Rd_graph.G (k p : Nat) (avs : List AV) (H : List HE) : Option (List Int × Int × List Int × List (Int × List Int)) := (pick1 10 (spec_l1Rd_graph.G10 k avs H) (pick1 33 (spec_l1Rd_graph.G33 k avs H) (pick1 48 (spec_l1Rd_graph.G48 k avs H) none p) p) p)
set_option maxRecDepth 100000 in
theorem spec_l1Rd_graph.eq (k : Nat) (a0_0 : List Int) (a0_1 : Int) (a1 : List ByteArray) (a2 : Int) (a3 : Int) : fromTop Tryz.prog spec_l1Rd_graph.E k spec_l1Rd_graph.a (spec_l1Rd_graph.G k) 1000 (bodyOf Tryz.prog 82) [.box 0 0, .con .str a1, .v (.int .i64 a2), .v (.int .i64 a3)] [.box [.con (.int .u8) a0_0, .v (.int .i64 a0_1)]] = spec_l1Rd_graph.f k a0_0 a0_1 a1 a2 a3 := by kernel_rfl
set_option maxRecDepth 100000 in
theorem spec_l1Rd_graph.eq10 (k : Nat) (h0_0 : List Int) (h0_1 : Int) (x1 : List ByteArray) (x2 : Int) (x9_0 : List Int) (x10 : Int) (x11 : Int) : fromPt Tryz.prog spec_l1Rd_graph.E k spec_l1Rd_graph.a (spec_l1Rd_graph.G k) 1000 (bodyOf Tryz.prog 82) 10 [.box 0 0, .con .str x1, .v (.int .i64 x2), .box 1 0, .box 2 0, .v (.int .i64 x10), .v (.int .i64 x11)] [.box [.con (.int .u8) h0_0, .v (.int .i64 h0_1)], .box [.v (.slice none 0 0), .v (.slice none 0 0)], .box [.own 3, .v (.slice none 0 0)], .row 2 (.int .i64) x9_0] = spec_l1Rd_graph.p10 (k + 1) h0_0 h0_1 x1 x2 x9_0 x10 x11 := by kernel_rfl
theorem spec_l1Rd_graph.G10_0 {avs : List AV} {H : List HE} : spec_l1Rd_graph.G10 0 avs H = none := by unfold spec_l1Rd_graph.G10; split <;> rfl
theorem spec_l1Rd_graph.G10_s (k : Nat) {avs : List AV} {H : List HE} {x : List Int × Int × List Int × List (Int × List Int)} (h : spec_l1Rd_graph.G10 (k + 1) avs H = some x) : fromPt Tryz.prog spec_l1Rd_graph.E k spec_l1Rd_graph.a (spec_l1Rd_graph.G k) 1000 (bodyOf Tryz.prog 82) 10 avs H = some x := by
  unfold spec_l1Rd_graph.G10 at h
  split at h
  · rw [← h]; exact spec_l1Rd_graph.eq10 _ _ _ _ _ _ _ _
  · cases h
set_option maxRecDepth 100000 in
theorem spec_l1Rd_graph.eq33 (k : Nat) (h0_0 : List Int) (h0_1 : Int) (x1 : List ByteArray) (x9_0 : List Int) (x9_1 : List (Int × List Int)) (x10 : Int) (x13 : Int) : fromPt Tryz.prog spec_l1Rd_graph.E k spec_l1Rd_graph.a (spec_l1Rd_graph.G k) 1000 (bodyOf Tryz.prog 82) 33 [.box 0 0, .con .str x1, .box 1 0, .box 2 0, .v (.int .i64 x10), .v (.int .i64 x13)] [.box [.con (.int .u8) h0_0, .v (.int .i64 h0_1)], .box [.v (.slice none 0 0), .v (.slice none 0 0)], .box [.own 3, .own 4], .row 2 (.int .i64) x9_0, .row 53 (.pair (.int .i64) (.sl (.int .i64))) x9_1] = spec_l1Rd_graph.p33 (k + 1) h0_0 h0_1 x1 x9_0 x9_1 x10 x13 := by kernel_rfl
theorem spec_l1Rd_graph.G33_0 {avs : List AV} {H : List HE} : spec_l1Rd_graph.G33 0 avs H = none := by unfold spec_l1Rd_graph.G33; split <;> rfl
theorem spec_l1Rd_graph.G33_s (k : Nat) {avs : List AV} {H : List HE} {x : List Int × Int × List Int × List (Int × List Int)} (h : spec_l1Rd_graph.G33 (k + 1) avs H = some x) : fromPt Tryz.prog spec_l1Rd_graph.E k spec_l1Rd_graph.a (spec_l1Rd_graph.G k) 1000 (bodyOf Tryz.prog 82) 33 avs H = some x := by
  unfold spec_l1Rd_graph.G33 at h
  split at h
  · rw [← h]; exact spec_l1Rd_graph.eq33 _ _ _ _ _ _ _ _
  · cases h
set_option maxRecDepth 100000 in
theorem spec_l1Rd_graph.eq48 (k : Nat) (h0_0 : List Int) (h0_1 : Int) (x1 : List ByteArray) (x9_0 : List Int) (x9_1 : List (Int × List Int)) (x10 : Int) (x13 : Int) (x14_0 : Int) (x14_1 : List Int) (x15 : Int) : fromPt Tryz.prog spec_l1Rd_graph.E k spec_l1Rd_graph.a (spec_l1Rd_graph.G k) 1000 (bodyOf Tryz.prog 82) 48 [.box 0 0, .con .str x1, .box 1 0, .box 2 0, .v (.int .i64 x10), .v (.int .i64 x13), .box 5 0, .v (.int .i64 x15)] [.box [.con (.int .u8) h0_0, .v (.int .i64 h0_1)], .box [.v (.slice none 0 0), .v (.slice none 0 0)], .box [.own 3, .own 4], .row 2 (.int .i64) x9_0, .row 53 (.pair (.int .i64) (.sl (.int .i64))) x9_1, .box [.v (.int .i64 x14_0), .own 6], .row 2 (.int .i64) x14_1] = spec_l1Rd_graph.p48 (k + 1) h0_0 h0_1 x1 x9_0 x9_1 x10 x13 x14_0 x14_1 x15 := by kernel_rfl
theorem spec_l1Rd_graph.G48_0 {avs : List AV} {H : List HE} : spec_l1Rd_graph.G48 0 avs H = none := by unfold spec_l1Rd_graph.G48; split <;> rfl
theorem spec_l1Rd_graph.G48_s (k : Nat) {avs : List AV} {H : List HE} {x : List Int × Int × List Int × List (Int × List Int)} (h : spec_l1Rd_graph.G48 (k + 1) avs H = some x) : fromPt Tryz.prog spec_l1Rd_graph.E k spec_l1Rd_graph.a (spec_l1Rd_graph.G k) 1000 (bodyOf Tryz.prog 82) 48 avs H = some x := by
  unfold spec_l1Rd_graph.G48 at h
  split at h
  · rw [← h]; exact spec_l1Rd_graph.eq48 _ _ _ _ _ _ _ _ _ _ _
  · cases h
theorem spec_l1Rd_graph.E_ok : EnvOk Tryz.prog spec_l1Rd_graph.E := ⟨⟨spec_l1Rd_size.sound, callable_of (by kernel_rfl)⟩, ⟨spec_l1Rd_once.sound, callable_of (by kernel_rfl)⟩, ⟨spec_l1Rd_below.sound, callable_of (by kernel_rfl)⟩, trivial⟩
theorem spec_l1Rd_graph.sound : Sound Tryz.prog 82 spec_l1Rd_graph.s := by
  refine func_sound (f := spec_l1Rd_graph.a) (G := spec_l1Rd_graph.G) (fn := Tryz.f82) (body := bodyOf Tryz.prog 82) 1000 (by kernel_rfl) spec_l1Rd_graph.E_ok Tryz.func82 (by kernel_rfl) (by kernel_rfl) (by kernel_rfl) (ptsOk_of (by kernel_rfl)) ?_ ?_ ?_ ?_
  · intro r H x h
    unfold spec_l1Rd_graph.a at h
    simp only at h
    split at h
    · cases h; rfl
    · cases h
  · exact fun q avs H => pick1_none spec_l1Rd_graph.G10_0 (pick1_none spec_l1Rd_graph.G33_0 (pick1_none spec_l1Rd_graph.G48_0 (rfl)))
  · intro k q pt avs H x _ h
    rcases pick1_some h with ⟨rfl, h⟩ | h
    · exact spec_l1Rd_graph.G10_s _ h
    rcases pick1_some h with ⟨rfl, h⟩ | h
    · exact spec_l1Rd_graph.G33_s _ h
    rcases pick1_some h with ⟨rfl, h⟩ | h
    · exact spec_l1Rd_graph.G48_s _ h
    cases h
  · intro k avs H o h
    try dsimp only at h
    split at h
    · cases h; exact spec_l1Rd_graph.eq _ _ _ _ _ _
    · cases h

def spec_l1In.a : FnA (Bool) := ⟨15, [.tmp 6], .bool, [], [], fun x H => match x, H with
  | .bs false r, [] => some r
  | _, _ => none⟩
def spec_l1In.s : Spec := mkS [.val, .val, .val] (fun k avs H => match avs, H with
  | [.v (.int .i64 a0), .v (.int .i64 a1), .v (.int .i64 a2)], [] => some (spec_l1In.f a0 a1 a2)
  | _, _ => none) (fun r => (.bs false r, []))
def spec_l1In.E : Env := []
def spec_l1In.G (k p : Nat) (avs : List AV) (H : List HE) : Option (Bool) := none
set_option maxRecDepth 100000 in
theorem spec_l1In.eq (k : Nat) (a0 : Int) (a1 : Int) (a2 : Int) : fromTop Tryz.prog spec_l1In.E k spec_l1In.a (spec_l1In.G k) 1000 (bodyOf Tryz.prog 108) [.v (.int .i64 a0), .v (.int .i64 a1), .v (.int .i64 a2)] [] = spec_l1In.f a0 a1 a2 := by kernel_rfl
theorem spec_l1In.E_ok : EnvOk Tryz.prog spec_l1In.E := trivial
theorem spec_l1In.sound : Sound Tryz.prog 108 spec_l1In.s := by
  refine func_sound (f := spec_l1In.a) (G := spec_l1In.G) (fn := Tryz.f108) (body := bodyOf Tryz.prog 108) 1000 (by kernel_rfl) spec_l1In.E_ok Tryz.func108 (by kernel_rfl) (by kernel_rfl) (by kernel_rfl) (ptsOk_of (by kernel_rfl)) ?_ ?_ ?_ ?_
  · intro r H x h
    unfold spec_l1In.a at h
    simp only at h
    split at h
    · cases h; rfl
    · cases h
  · intro q avs H; rfl
  · intro k q pt avs H x _ h; cases h
  · intro k avs H o h
    try dsimp only at h
    split at h
    · cases h; exact spec_l1In.eq _ _ _ _
    · cases h

def spec_l3Type.a : FnA (Bool) := ⟨23, [.tmp 2], .bool, [], [⟨6, [0, 3], [.val, .val], []⟩], fun x H => match x, H with
  | .bs false r, [] => some r
  | _, _ => none⟩
def spec_l3Type.s : Spec := mkS [.val] (fun k avs H => match avs, H with
  | [.v (.string a0)], [] => some (spec_l3Type.f k a0)
  | _, _ => none) (fun r => (.bs false r, []))
def spec_l3Type.E : Env := [((108, []), spec_l1In.s)]
def spec_l3Type.G6 (k : Nat) (avs : List AV) (H : List HE) : Option (Bool) := match avs, H with
  | [.v (.string x0), .v (.int .i64 x3)], [] => spec_l3Type.p6 k x0 x3
  | _, _ => none
def spec_l3Type.G (k p : Nat) (avs : List AV) (H : List HE) : Option (Bool) := (pick1 6 (spec_l3Type.G6 k avs H) none p)
set_option maxRecDepth 100000 in
theorem spec_l3Type.eq (k : Nat) (a0 : ByteArray) : fromTop Tryz.prog spec_l3Type.E k spec_l3Type.a (spec_l3Type.G k) 1000 (bodyOf Tryz.prog 103) [.v (.string a0)] [] = spec_l3Type.f k a0 := by kernel_rfl
set_option maxRecDepth 100000 in
theorem spec_l3Type.eq6 (k : Nat) (x0 : ByteArray) (x3 : Int) : fromPt Tryz.prog spec_l3Type.E k spec_l3Type.a (spec_l3Type.G k) 1000 (bodyOf Tryz.prog 103) 6 [.v (.string x0), .v (.int .i64 x3)] [] = spec_l3Type.p6 (k + 1) x0 x3 := by kernel_rfl
theorem spec_l3Type.G6_0 {avs : List AV} {H : List HE} : spec_l3Type.G6 0 avs H = none := by unfold spec_l3Type.G6; split <;> rfl
theorem spec_l3Type.G6_s (k : Nat) {avs : List AV} {H : List HE} {x : Bool} (h : spec_l3Type.G6 (k + 1) avs H = some x) : fromPt Tryz.prog spec_l3Type.E k spec_l3Type.a (spec_l3Type.G k) 1000 (bodyOf Tryz.prog 103) 6 avs H = some x := by
  unfold spec_l3Type.G6 at h
  split at h
  · rw [← h]; exact spec_l3Type.eq6 _ _ _
  · cases h
theorem spec_l3Type.E_ok : EnvOk Tryz.prog spec_l3Type.E := ⟨⟨spec_l1In.sound, callable_of (by kernel_rfl)⟩, trivial⟩
theorem spec_l3Type.sound : Sound Tryz.prog 103 spec_l3Type.s := by
  refine func_sound (f := spec_l3Type.a) (G := spec_l3Type.G) (fn := Tryz.f103) (body := bodyOf Tryz.prog 103) 1000 (by kernel_rfl) spec_l3Type.E_ok Tryz.func103 (by kernel_rfl) (by kernel_rfl) (by kernel_rfl) (ptsOk_of (by kernel_rfl)) ?_ ?_ ?_ ?_
  · intro r H x h
    unfold spec_l3Type.a at h
    simp only at h
    split at h
    · cases h; rfl
    · cases h
  · exact fun q avs H => pick1_none spec_l3Type.G6_0 (rfl)
  · intro k q pt avs H x _ h
    rcases pick1_some h with ⟨rfl, h⟩ | h
    · exact spec_l3Type.G6_s _ h
    cases h
  · intro k avs H o h
    try dsimp only at h
    split at h
    · cases h; exact spec_l3Type.eq _ _
    · cases h

def spec_TypesOk.a : FnA (Bool) := ⟨20, [.tmp 2], .bool, [], [⟨14, [0, 3], [.con .str, .val], []⟩], fun x H => match x, H with
  | .bs false r, [] => some r
  | _, _ => none⟩
def spec_TypesOk.s : Spec := mkS [.con .str] (fun k avs H => match avs, H with
  | [.con .str a0], [] => some (spec_TypesOk.f k a0)
  | _, _ => none) (fun r => (.bs false r, []))
def spec_TypesOk.E : Env := [((108, []), spec_l1In.s), ((103, []), spec_l3Type.s)]
def spec_TypesOk.G14 (k : Nat) (avs : List AV) (H : List HE) : Option (Bool) := match avs, H with
  | [.con .str x0, .v (.int .i64 x3)], [] => spec_TypesOk.p14 k x0 x3
  | _, _ => none
def spec_TypesOk.G (k p : Nat) (avs : List AV) (H : List HE) : Option (Bool) := (pick1 14 (spec_TypesOk.G14 k avs H) none p)
set_option maxRecDepth 100000 in
theorem spec_TypesOk.eq (k : Nat) (a0 : List ByteArray) : fromTop Tryz.prog spec_TypesOk.E k spec_TypesOk.a (spec_TypesOk.G k) 1000 (bodyOf Tryz.prog 109) [.con .str a0] [] = spec_TypesOk.f k a0 := by kernel_rfl
set_option maxRecDepth 100000 in
theorem spec_TypesOk.eq14 (k : Nat) (x0 : List ByteArray) (x3 : Int) : fromPt Tryz.prog spec_TypesOk.E k spec_TypesOk.a (spec_TypesOk.G k) 1000 (bodyOf Tryz.prog 109) 14 [.con .str x0, .v (.int .i64 x3)] [] = spec_TypesOk.p14 (k + 1) x0 x3 := by kernel_rfl
theorem spec_TypesOk.G14_0 {avs : List AV} {H : List HE} : spec_TypesOk.G14 0 avs H = none := by unfold spec_TypesOk.G14; split <;> rfl
theorem spec_TypesOk.G14_s (k : Nat) {avs : List AV} {H : List HE} {x : Bool} (h : spec_TypesOk.G14 (k + 1) avs H = some x) : fromPt Tryz.prog spec_TypesOk.E k spec_TypesOk.a (spec_TypesOk.G k) 1000 (bodyOf Tryz.prog 109) 14 avs H = some x := by
  unfold spec_TypesOk.G14 at h
  split at h
  · rw [← h]; exact spec_TypesOk.eq14 _ _ _
  · cases h
theorem spec_TypesOk.E_ok : EnvOk Tryz.prog spec_TypesOk.E := ⟨⟨spec_l1In.sound, callable_of (by kernel_rfl)⟩, ⟨spec_l3Type.sound, callable_of (by kernel_rfl)⟩, trivial⟩
theorem spec_TypesOk.sound : Sound Tryz.prog 109 spec_TypesOk.s := by
  refine func_sound (f := spec_TypesOk.a) (G := spec_TypesOk.G) (fn := Tryz.f109) (body := bodyOf Tryz.prog 109) 1000 (by kernel_rfl) spec_TypesOk.E_ok Tryz.func109 (by kernel_rfl) (by kernel_rfl) (by kernel_rfl) (ptsOk_of (by kernel_rfl)) ?_ ?_ ?_ ?_
  · intro r H x h
    unfold spec_TypesOk.a at h
    simp only at h
    split at h
    · cases h; rfl
    · cases h
  · exact fun q avs H => pick1_none spec_TypesOk.G14_0 (rfl)
  · intro k q pt avs H x _ h
    rcases pick1_some h with ⟨rfl, h⟩ | h
    · exact spec_TypesOk.G14_s _ h
    cases h
  · intro k avs H o h
    try dsimp only at h
    split at h
    · cases h; exact spec_TypesOk.eq _ _
    · cases h

def spec_ConfigOk.a : FnA (Bool) := ⟨29, [.tmp 2], .bool, [], [], fun x H => match x, H with
  | .bs false r, [] => some r
  | _, _ => none⟩
def spec_ConfigOk.s : Spec := mkS [.agg [.val, .val, .val, .con .str]] (fun k avs H => match avs, H with
  | [.agg [.v (.int .i64 a0_0), .v (.int .i64 a0_1), .v (.int .i64 a0_2), .con .str a0_3]], [] => some (spec_ConfigOk.f k a0_0 a0_1 a0_2 a0_3)
  | _, _ => none) (fun r => (.bs false r, []))
def spec_ConfigOk.E : Env := [((108, []), spec_l1In.s), ((109, []), spec_TypesOk.s)]
def spec_ConfigOk.G (k p : Nat) (avs : List AV) (H : List HE) : Option (Bool) := none
set_option maxRecDepth 100000 in
theorem spec_ConfigOk.eq (k : Nat) (a0_0 : Int) (a0_1 : Int) (a0_2 : Int) (a0_3 : List ByteArray) : fromTop Tryz.prog spec_ConfigOk.E k spec_ConfigOk.a (spec_ConfigOk.G k) 1000 (bodyOf Tryz.prog 72) [.agg [.v (.int .i64 a0_0), .v (.int .i64 a0_1), .v (.int .i64 a0_2), .con .str a0_3]] [] = spec_ConfigOk.f k a0_0 a0_1 a0_2 a0_3 := by kernel_rfl
theorem spec_ConfigOk.E_ok : EnvOk Tryz.prog spec_ConfigOk.E := ⟨⟨spec_l1In.sound, callable_of (by kernel_rfl)⟩, ⟨spec_TypesOk.sound, callable_of (by kernel_rfl)⟩, trivial⟩
theorem spec_ConfigOk.sound : Sound Tryz.prog 72 spec_ConfigOk.s := by
  refine func_sound (f := spec_ConfigOk.a) (G := spec_ConfigOk.G) (fn := Tryz.f72) (body := bodyOf Tryz.prog 72) 1000 (by kernel_rfl) spec_ConfigOk.E_ok Tryz.func72 (by kernel_rfl) (by kernel_rfl) (by kernel_rfl) (ptsOk_of (by kernel_rfl)) ?_ ?_ ?_ ?_
  · intro r H x h
    unfold spec_ConfigOk.a at h
    simp only at h
    split at h
    · cases h; rfl
    · cases h
  · intro q avs H; rfl
  · intro k q pt avs H x _ h; cases h
  · intro k avs H o h
    try dsimp only at h
    split at h
    · cases h; exact spec_ConfigOk.eq _ _ _ _ _
    · cases h

def spec_WordBytes.a : FnA (ByteArray) := ⟨23, [.tmp 2], .val, [], [⟨8, [0, 3, 4], [.val, .row 5 (.int .u8), .val], []⟩], fun x H => match x, H with
  | .v (.string r), [] => some r
  | _, _ => none⟩
def spec_WordBytes.s : Spec := mkS [.val] (fun k avs H => match avs, H with
  | [.v (.int .i64 a0)], [] => some (spec_WordBytes.f k a0)
  | _, _ => none) (fun r => (.v (.string r), []))
def spec_WordBytes.E : Env := []
def spec_WordBytes.G8 (k : Nat) (avs : List AV) (H : List HE) : Option (ByteArray) := match avs, H with
  | [.v (.int .i64 x0), .own 0, .v (.int .i64 x4)], [.row 5 (.int .u8) x3] => spec_WordBytes.p8 k x0 x3 x4
  | _, _ => none
def spec_WordBytes.G (k p : Nat) (avs : List AV) (H : List HE) : Option (ByteArray) := (pick1 8 (spec_WordBytes.G8 k avs H) none p)
set_option maxRecDepth 100000 in
theorem spec_WordBytes.eq (k : Nat) (a0 : Int) : fromTop Tryz.prog spec_WordBytes.E k spec_WordBytes.a (spec_WordBytes.G k) 1000 (bodyOf Tryz.prog 89) [.v (.int .i64 a0)] [] = spec_WordBytes.f k a0 := by kernel_rfl
set_option maxRecDepth 100000 in
theorem spec_WordBytes.eq8 (k : Nat) (x0 : Int) (x3 : List Int) (x4 : Int) : fromPt Tryz.prog spec_WordBytes.E k spec_WordBytes.a (spec_WordBytes.G k) 1000 (bodyOf Tryz.prog 89) 8 [.v (.int .i64 x0), .own 0, .v (.int .i64 x4)] [.row 5 (.int .u8) x3] = spec_WordBytes.p8 (k + 1) x0 x3 x4 := by kernel_rfl
theorem spec_WordBytes.G8_0 {avs : List AV} {H : List HE} : spec_WordBytes.G8 0 avs H = none := by unfold spec_WordBytes.G8; split <;> rfl
theorem spec_WordBytes.G8_s (k : Nat) {avs : List AV} {H : List HE} {x : ByteArray} (h : spec_WordBytes.G8 (k + 1) avs H = some x) : fromPt Tryz.prog spec_WordBytes.E k spec_WordBytes.a (spec_WordBytes.G k) 1000 (bodyOf Tryz.prog 89) 8 avs H = some x := by
  unfold spec_WordBytes.G8 at h
  split at h
  · rw [← h]; exact spec_WordBytes.eq8 _ _ _ _
  · cases h
theorem spec_WordBytes.E_ok : EnvOk Tryz.prog spec_WordBytes.E := trivial
theorem spec_WordBytes.sound : Sound Tryz.prog 89 spec_WordBytes.s := by
  refine func_sound (f := spec_WordBytes.a) (G := spec_WordBytes.G) (fn := Tryz.f89) (body := bodyOf Tryz.prog 89) 1000 (by kernel_rfl) spec_WordBytes.E_ok Tryz.func89 (by kernel_rfl) (by kernel_rfl) (by kernel_rfl) (ptsOk_of (by kernel_rfl)) ?_ ?_ ?_ ?_
  · intro r H x h
    unfold spec_WordBytes.a at h
    simp only at h
    split at h
    · cases h; rfl
    · cases h
  · exact fun q avs H => pick1_none spec_WordBytes.G8_0 (rfl)
  · intro k q pt avs H x _ h
    rcases pick1_some h with ⟨rfl, h⟩ | h
    · exact spec_WordBytes.G8_s _ h
    cases h
  · intro k avs H o h
    try dsimp only at h
    split at h
    · cases h; exact spec_WordBytes.eq _ _
    · cases h

def spec_ShortBytes.a : FnA (ByteArray) := ⟨9, [.tmp 2], .val, [], [], fun x H => match x, H with
  | .v (.string r), [] => some r
  | _, _ => none⟩
def spec_ShortBytes.s : Spec := mkS [.val] (fun k avs H => match avs, H with
  | [.v (.int .i64 a0)], [] => some (spec_ShortBytes.f k a0)
  | _, _ => none) (fun r => (.v (.string r), []))
def spec_ShortBytes.E : Env := [((108, []), spec_l1In.s), ((89, []), spec_WordBytes.s)]
def spec_ShortBytes.G (k p : Nat) (avs : List AV) (H : List HE) : Option (ByteArray) := none
set_option maxRecDepth 100000 in
theorem spec_ShortBytes.eq (k : Nat) (a0 : Int) : fromTop Tryz.prog spec_ShortBytes.E k spec_ShortBytes.a (spec_ShortBytes.G k) 1000 (bodyOf Tryz.prog 138) [.v (.int .i64 a0)] [] = spec_ShortBytes.f k a0 := by kernel_rfl
theorem spec_ShortBytes.E_ok : EnvOk Tryz.prog spec_ShortBytes.E := ⟨⟨spec_l1In.sound, callable_of (by kernel_rfl)⟩, ⟨spec_WordBytes.sound, callable_of (by kernel_rfl)⟩, trivial⟩
theorem spec_ShortBytes.sound : Sound Tryz.prog 138 spec_ShortBytes.s := by
  refine func_sound (f := spec_ShortBytes.a) (G := spec_ShortBytes.G) (fn := Tryz.f138) (body := bodyOf Tryz.prog 138) 1000 (by kernel_rfl) spec_ShortBytes.E_ok Tryz.func138 (by kernel_rfl) (by kernel_rfl) (by kernel_rfl) (ptsOk_of (by kernel_rfl)) ?_ ?_ ?_ ?_
  · intro r H x h
    unfold spec_ShortBytes.a at h
    simp only at h
    split at h
    · cases h; rfl
    · cases h
  · intro q avs H; rfl
  · intro k q pt avs H x _ h; cases h
  · intro k avs H o h
    try dsimp only at h
    split at h
    · cases h; exact spec_ShortBytes.eq _ _
    · cases h

def spec_l1Zeros.a : FnA (ByteArray) := ⟨6, [.tmp 2], .val, [], [], fun x H => match x, H with
  | .v (.string r), [] => some r
  | _, _ => none⟩
def spec_l1Zeros.s : Spec := mkS [.val] (fun k avs H => match avs, H with
  | [.v (.int .i64 a0)], [] => some (spec_l1Zeros.f a0)
  | _, _ => none) (fun r => (.v (.string r), []))
def spec_l1Zeros.E : Env := []
def spec_l1Zeros.G (k p : Nat) (avs : List AV) (H : List HE) : Option (ByteArray) := none
set_option maxRecDepth 100000 in
theorem spec_l1Zeros.eq (k : Nat) (a0 : Int) : fromTop Tryz.prog spec_l1Zeros.E k spec_l1Zeros.a (spec_l1Zeros.G k) 1000 (bodyOf Tryz.prog 63) [.v (.int .i64 a0)] [] = spec_l1Zeros.f a0 := by kernel_rfl
theorem spec_l1Zeros.E_ok : EnvOk Tryz.prog spec_l1Zeros.E := trivial
theorem spec_l1Zeros.sound : Sound Tryz.prog 63 spec_l1Zeros.s := by
  refine func_sound (f := spec_l1Zeros.a) (G := spec_l1Zeros.G) (fn := Tryz.f63) (body := bodyOf Tryz.prog 63) 1000 (by kernel_rfl) spec_l1Zeros.E_ok Tryz.func63 (by kernel_rfl) (by kernel_rfl) (by kernel_rfl) (ptsOk_of (by kernel_rfl)) ?_ ?_ ?_ ?_
  · intro r H x h
    unfold spec_l1Zeros.a at h
    simp only at h
    split at h
    · cases h; rfl
    · cases h
  · intro q avs H; rfl
  · intro k q pt avs H x _ h; cases h
  · intro k avs H o h
    try dsimp only at h
    split at h
    · cases h; exact spec_l1Zeros.eq _ _
    · cases h

def spec_l1Crc.a : FnA (ByteArray) := ⟨45, [.tmp 2], .val, [], [⟨8, [0, 3, 4], [.val, .val, .val], []⟩, ⟨22, [0, 3, 4, 5], [.val, .val, .val, .val], []⟩], fun x H => match x, H with
  | .v (.string r), [] => some r
  | _, _ => none⟩
def spec_l1Crc.s : Spec := mkS [.val] (fun k avs H => match avs, H with
  | [.v (.string a0)], [] => some (spec_l1Crc.f k a0)
  | _, _ => none) (fun r => (.v (.string r), []))
def spec_l1Crc.E : Env := []
def spec_l1Crc.G8 (k : Nat) (avs : List AV) (H : List HE) : Option (ByteArray) := match avs, H with
  | [.v (.string x0), .v (.int .u32 x3), .v (.int .i64 x4)], [] => spec_l1Crc.p8 k x0 x3 x4
  | _, _ => none
def spec_l1Crc.G22 (k : Nat) (avs : List AV) (H : List HE) : Option (ByteArray) := match avs, H with
  | [.v (.string x0), .v (.int .u32 x3), .v (.int .i64 x4), .v (.int .i64 x5)], [] => spec_l1Crc.p22 k x0 x3 x4 x5
  | _, _ => none
def spec_l1Crc.G (k p : Nat) (avs : List AV) (H : List HE) : Option (ByteArray) := (pick1 8 (spec_l1Crc.G8 k avs H) (pick1 22 (spec_l1Crc.G22 k avs H) none p) p)
set_option maxRecDepth 100000 in
theorem spec_l1Crc.eq (k : Nat) (a0 : ByteArray) : fromTop Tryz.prog spec_l1Crc.E k spec_l1Crc.a (spec_l1Crc.G k) 1000 (bodyOf Tryz.prog 156) [.v (.string a0)] [] = spec_l1Crc.f k a0 := by kernel_rfl
set_option maxRecDepth 100000 in
theorem spec_l1Crc.eq8 (k : Nat) (x0 : ByteArray) (x3 : Int) (x4 : Int) : fromPt Tryz.prog spec_l1Crc.E k spec_l1Crc.a (spec_l1Crc.G k) 1000 (bodyOf Tryz.prog 156) 8 [.v (.string x0), .v (.int .u32 x3), .v (.int .i64 x4)] [] = spec_l1Crc.p8 (k + 1) x0 x3 x4 := by kernel_rfl
theorem spec_l1Crc.G8_0 {avs : List AV} {H : List HE} : spec_l1Crc.G8 0 avs H = none := by unfold spec_l1Crc.G8; split <;> rfl
theorem spec_l1Crc.G8_s (k : Nat) {avs : List AV} {H : List HE} {x : ByteArray} (h : spec_l1Crc.G8 (k + 1) avs H = some x) : fromPt Tryz.prog spec_l1Crc.E k spec_l1Crc.a (spec_l1Crc.G k) 1000 (bodyOf Tryz.prog 156) 8 avs H = some x := by
  unfold spec_l1Crc.G8 at h
  split at h
  · rw [← h]; exact spec_l1Crc.eq8 _ _ _ _
  · cases h
set_option maxRecDepth 100000 in
theorem spec_l1Crc.eq22 (k : Nat) (x0 : ByteArray) (x3 : Int) (x4 : Int) (x5 : Int) : fromPt Tryz.prog spec_l1Crc.E k spec_l1Crc.a (spec_l1Crc.G k) 1000 (bodyOf Tryz.prog 156) 22 [.v (.string x0), .v (.int .u32 x3), .v (.int .i64 x4), .v (.int .i64 x5)] [] = spec_l1Crc.p22 (k + 1) x0 x3 x4 x5 := by kernel_rfl
theorem spec_l1Crc.G22_0 {avs : List AV} {H : List HE} : spec_l1Crc.G22 0 avs H = none := by unfold spec_l1Crc.G22; split <;> rfl
theorem spec_l1Crc.G22_s (k : Nat) {avs : List AV} {H : List HE} {x : ByteArray} (h : spec_l1Crc.G22 (k + 1) avs H = some x) : fromPt Tryz.prog spec_l1Crc.E k spec_l1Crc.a (spec_l1Crc.G k) 1000 (bodyOf Tryz.prog 156) 22 avs H = some x := by
  unfold spec_l1Crc.G22 at h
  split at h
  · rw [← h]; exact spec_l1Crc.eq22 _ _ _ _ _
  · cases h
theorem spec_l1Crc.E_ok : EnvOk Tryz.prog spec_l1Crc.E := trivial
theorem spec_l1Crc.sound : Sound Tryz.prog 156 spec_l1Crc.s := by
  refine func_sound (f := spec_l1Crc.a) (G := spec_l1Crc.G) (fn := Tryz.f156) (body := bodyOf Tryz.prog 156) 1000 (by kernel_rfl) spec_l1Crc.E_ok Tryz.func156 (by kernel_rfl) (by kernel_rfl) (by kernel_rfl) (ptsOk_of (by kernel_rfl)) ?_ ?_ ?_ ?_
  · intro r H x h
    unfold spec_l1Crc.a at h
    simp only at h
    split at h
    · cases h; rfl
    · cases h
  · exact fun q avs H => pick1_none spec_l1Crc.G8_0 (pick1_none spec_l1Crc.G22_0 (rfl))
  · intro k q pt avs H x _ h
    rcases pick1_some h with ⟨rfl, h⟩ | h
    · exact spec_l1Crc.G8_s _ h
    rcases pick1_some h with ⟨rfl, h⟩ | h
    · exact spec_l1Crc.G22_s _ h
    cases h
  · intro k avs H o h
    try dsimp only at h
    split at h
    · cases h; exact spec_l1Crc.eq _ _
    · cases h

def spec_Sealed.a : FnA (ByteArray) := ⟨17, [.tmp 2], .val, [], [], fun x H => match x, H with
  | .v (.string r), [] => some r
  | _, _ => none⟩
def spec_Sealed.s : Spec := mkS [.val] (fun k avs H => match avs, H with
  | [.v (.string a0)], [] => some (spec_Sealed.f k a0)
  | _, _ => none) (fun r => (.v (.string r), []))
def spec_Sealed.E : Env := [((63, []), spec_l1Zeros.s), ((156, []), spec_l1Crc.s)]
def spec_Sealed.G (k p : Nat) (avs : List AV) (H : List HE) : Option (ByteArray) := none
set_option maxRecDepth 100000 in
theorem spec_Sealed.eq (k : Nat) (a0 : ByteArray) : fromTop Tryz.prog spec_Sealed.E k spec_Sealed.a (spec_Sealed.G k) 1000 (bodyOf Tryz.prog 139) [.v (.string a0)] [] = spec_Sealed.f k a0 := by kernel_rfl
theorem spec_Sealed.E_ok : EnvOk Tryz.prog spec_Sealed.E := ⟨⟨spec_l1Zeros.sound, callable_of (by kernel_rfl)⟩, ⟨spec_l1Crc.sound, callable_of (by kernel_rfl)⟩, trivial⟩
theorem spec_Sealed.sound : Sound Tryz.prog 139 spec_Sealed.s := by
  refine func_sound (f := spec_Sealed.a) (G := spec_Sealed.G) (fn := Tryz.f139) (body := bodyOf Tryz.prog 139) 1000 (by kernel_rfl) spec_Sealed.E_ok Tryz.func139 (by kernel_rfl) (by kernel_rfl) (by kernel_rfl) (ptsOk_of (by kernel_rfl)) ?_ ?_ ?_ ?_
  · intro r H x h
    unfold spec_Sealed.a at h
    simp only at h
    split at h
    · cases h; rfl
    · cases h
  · intro q avs H; rfl
  · intro k q pt avs H x _ h; cases h
  · intro k avs H o h
    try dsimp only at h
    split at h
    · cases h; exact spec_Sealed.eq _ _
    · cases h

def spec_l3Super.a : FnA (ByteArray) := ⟨77, [.tmp 2], .val, [], [⟨8, [1, 3, 4], [.box [.val, .val, .val, .con .str], .val, .val], []⟩, ⟨23, [1, 3, 4, 5, 6], [.box [.val, .val, .val, .con .str], .val, .val, .val, .val], []⟩], fun x H => match x, H with
  | .v (.string r), [] => some r
  | _, _ => none⟩
def spec_l3Super.s : Spec := mkS [.agg [.val, .val, .val, .con .str]] (fun k avs H => match avs, H with
  | [.agg [.v (.int .i64 a0_0), .v (.int .i64 a0_1), .v (.int .i64 a0_2), .con .str a0_3]], [] => some (spec_l3Super.f k a0_0 a0_1 a0_2 a0_3)
  | _, _ => none) (fun r => (.v (.string r), []))
def spec_l3Super.E : Env := [((138, []), spec_ShortBytes.s), ((139, []), spec_Sealed.s)]
def spec_l3Super.G8 (k : Nat) (avs : List AV) (H : List HE) : Option (ByteArray) := match avs, H with
  | [.box 0 0, .v (.string x3), .v (.int .i64 x4)], [.box [.v (.int .i64 x1_0), .v (.int .i64 x1_1), .v (.int .i64 x1_2), .con .str x1_3]] => spec_l3Super.p8 k x1_0 x1_1 x1_2 x1_3 x3 x4
  | _, _ => none
def spec_l3Super.G23 (k : Nat) (avs : List AV) (H : List HE) : Option (ByteArray) := match avs, H with
  | [.box 0 0, .v (.string x3), .v (.int .i64 x4), .v (.int .i64 x5), .v (.int .i64 x6)], [.box [.v (.int .i64 x1_0), .v (.int .i64 x1_1), .v (.int .i64 x1_2), .con .str x1_3]] => spec_l3Super.p23 k x1_0 x1_1 x1_2 x1_3 x3 x4 x5 x6
  | _, _ => none
def spec_l3Super.G (k p : Nat) (avs : List AV) (H : List HE) : Option (ByteArray) := (pick1 8 (spec_l3Super.G8 k avs H) (pick1 23 (spec_l3Super.G23 k avs H) none p) p)
set_option maxRecDepth 100000 in
theorem spec_l3Super.eq (k : Nat) (a0_0 : Int) (a0_1 : Int) (a0_2 : Int) (a0_3 : List ByteArray) : fromTop Tryz.prog spec_l3Super.E k spec_l3Super.a (spec_l3Super.G k) 1000 (bodyOf Tryz.prog 115) [.agg [.v (.int .i64 a0_0), .v (.int .i64 a0_1), .v (.int .i64 a0_2), .con .str a0_3]] [] = spec_l3Super.f k a0_0 a0_1 a0_2 a0_3 := by kernel_rfl
set_option maxRecDepth 100000 in
theorem spec_l3Super.eq8 (k : Nat) (x1_0 : Int) (x1_1 : Int) (x1_2 : Int) (x1_3 : List ByteArray) (x3 : ByteArray) (x4 : Int) : fromPt Tryz.prog spec_l3Super.E k spec_l3Super.a (spec_l3Super.G k) 1000 (bodyOf Tryz.prog 115) 8 [.box 0 0, .v (.string x3), .v (.int .i64 x4)] [.box [.v (.int .i64 x1_0), .v (.int .i64 x1_1), .v (.int .i64 x1_2), .con .str x1_3]] = spec_l3Super.p8 (k + 1) x1_0 x1_1 x1_2 x1_3 x3 x4 := by kernel_rfl
theorem spec_l3Super.G8_0 {avs : List AV} {H : List HE} : spec_l3Super.G8 0 avs H = none := by unfold spec_l3Super.G8; split <;> rfl
theorem spec_l3Super.G8_s (k : Nat) {avs : List AV} {H : List HE} {x : ByteArray} (h : spec_l3Super.G8 (k + 1) avs H = some x) : fromPt Tryz.prog spec_l3Super.E k spec_l3Super.a (spec_l3Super.G k) 1000 (bodyOf Tryz.prog 115) 8 avs H = some x := by
  unfold spec_l3Super.G8 at h
  split at h
  · rw [← h]; exact spec_l3Super.eq8 _ _ _ _ _ _ _
  · cases h
set_option maxRecDepth 100000 in
theorem spec_l3Super.eq23 (k : Nat) (x1_0 : Int) (x1_1 : Int) (x1_2 : Int) (x1_3 : List ByteArray) (x3 : ByteArray) (x4 : Int) (x5 : Int) (x6 : Int) : fromPt Tryz.prog spec_l3Super.E k spec_l3Super.a (spec_l3Super.G k) 1000 (bodyOf Tryz.prog 115) 23 [.box 0 0, .v (.string x3), .v (.int .i64 x4), .v (.int .i64 x5), .v (.int .i64 x6)] [.box [.v (.int .i64 x1_0), .v (.int .i64 x1_1), .v (.int .i64 x1_2), .con .str x1_3]] = spec_l3Super.p23 (k + 1) x1_0 x1_1 x1_2 x1_3 x3 x4 x5 x6 := by kernel_rfl
theorem spec_l3Super.G23_0 {avs : List AV} {H : List HE} : spec_l3Super.G23 0 avs H = none := by unfold spec_l3Super.G23; split <;> rfl
theorem spec_l3Super.G23_s (k : Nat) {avs : List AV} {H : List HE} {x : ByteArray} (h : spec_l3Super.G23 (k + 1) avs H = some x) : fromPt Tryz.prog spec_l3Super.E k spec_l3Super.a (spec_l3Super.G k) 1000 (bodyOf Tryz.prog 115) 23 avs H = some x := by
  unfold spec_l3Super.G23 at h
  split at h
  · rw [← h]; exact spec_l3Super.eq23 _ _ _ _ _ _ _ _ _
  · cases h
theorem spec_l3Super.E_ok : EnvOk Tryz.prog spec_l3Super.E := ⟨⟨spec_ShortBytes.sound, callable_of (by kernel_rfl)⟩, ⟨spec_Sealed.sound, callable_of (by kernel_rfl)⟩, trivial⟩
theorem spec_l3Super.sound : Sound Tryz.prog 115 spec_l3Super.s := by
  refine func_sound (f := spec_l3Super.a) (G := spec_l3Super.G) (fn := Tryz.f115) (body := bodyOf Tryz.prog 115) 1000 (by kernel_rfl) spec_l3Super.E_ok Tryz.func115 (by kernel_rfl) (by kernel_rfl) (by kernel_rfl) (ptsOk_of (by kernel_rfl)) ?_ ?_ ?_ ?_
  · intro r H x h
    unfold spec_l3Super.a at h
    simp only at h
    split at h
    · cases h; rfl
    · cases h
  · exact fun q avs H => pick1_none spec_l3Super.G8_0 (pick1_none spec_l3Super.G23_0 (rfl))
  · intro k q pt avs H x _ h
    rcases pick1_some h with ⟨rfl, h⟩ | h
    · exact spec_l3Super.G8_s _ h
    rcases pick1_some h with ⟨rfl, h⟩ | h
    · exact spec_l3Super.G23_s _ h
    cases h
  · intro k avs H o h
    try dsimp only at h
    split at h
    · cases h; exact spec_l3Super.eq _ _ _ _ _
    · cases h

def spec_EpochLine.a : FnA (ByteArray) := ⟨9, [.tmp 2], .val, [], [], fun x H => match x, H with
  | .v (.string r), [] => some r
  | _, _ => none⟩
def spec_EpochLine.s : Spec := mkS [.val] (fun k avs H => match avs, H with
  | [.v (.int .i64 a0)], [] => some (spec_EpochLine.f k a0)
  | _, _ => none) (fun r => (.v (.string r), []))
def spec_EpochLine.E : Env := [((108, []), spec_l1In.s), ((89, []), spec_WordBytes.s), ((139, []), spec_Sealed.s)]
def spec_EpochLine.G (k p : Nat) (avs : List AV) (H : List HE) : Option (ByteArray) := none
set_option maxRecDepth 100000 in
theorem spec_EpochLine.eq (k : Nat) (a0 : Int) : fromTop Tryz.prog spec_EpochLine.E k spec_EpochLine.a (spec_EpochLine.G k) 1000 (bodyOf Tryz.prog 116) [.v (.int .i64 a0)] [] = spec_EpochLine.f k a0 := by kernel_rfl
theorem spec_EpochLine.E_ok : EnvOk Tryz.prog spec_EpochLine.E := ⟨⟨spec_l1In.sound, callable_of (by kernel_rfl)⟩, ⟨spec_WordBytes.sound, callable_of (by kernel_rfl)⟩, ⟨spec_Sealed.sound, callable_of (by kernel_rfl)⟩, trivial⟩
theorem spec_EpochLine.sound : Sound Tryz.prog 116 spec_EpochLine.s := by
  refine func_sound (f := spec_EpochLine.a) (G := spec_EpochLine.G) (fn := Tryz.f116) (body := bodyOf Tryz.prog 116) 1000 (by kernel_rfl) spec_EpochLine.E_ok Tryz.func116 (by kernel_rfl) (by kernel_rfl) (by kernel_rfl) (ptsOk_of (by kernel_rfl)) ?_ ?_ ?_ ?_
  · intro r H x h
    unfold spec_EpochLine.a at h
    simp only at h
    split at h
    · cases h; rfl
    · cases h
  · intro q avs H; rfl
  · intro k q pt avs H x _ h; cases h
  · intro k avs H o h
    try dsimp only at h
    split at h
    · cases h; exact spec_EpochLine.eq _ _
    · cases h

def spec_Format.a : FnA (ByteArray) := ⟨16, [.tmp 2], .val, [], [], fun x H => match x, H with
  | .v (.string r), [] => some r
  | _, _ => none⟩
def spec_Format.s : Spec := mkS [.agg [.val, .val, .val, .con .str]] (fun k avs H => match avs, H with
  | [.agg [.v (.int .i64 a0_0), .v (.int .i64 a0_1), .v (.int .i64 a0_2), .con .str a0_3]], [] => some (spec_Format.f k a0_0 a0_1 a0_2 a0_3)
  | _, _ => none) (fun r => (.v (.string r), []))
def spec_Format.E : Env := [((72, []), spec_ConfigOk.s), ((115, []), spec_l3Super.s), ((116, []), spec_EpochLine.s), ((63, []), spec_l1Zeros.s)]
def spec_Format.G (k p : Nat) (avs : List AV) (H : List HE) : Option (ByteArray) := none
set_option maxRecDepth 100000 in
theorem spec_Format.eq (k : Nat) (a0_0 : Int) (a0_1 : Int) (a0_2 : Int) (a0_3 : List ByteArray) : fromTop Tryz.prog spec_Format.E k spec_Format.a (spec_Format.G k) 1000 (bodyOf Tryz.prog 83) [.agg [.v (.int .i64 a0_0), .v (.int .i64 a0_1), .v (.int .i64 a0_2), .con .str a0_3]] [] = spec_Format.f k a0_0 a0_1 a0_2 a0_3 := by kernel_rfl
theorem spec_Format.E_ok : EnvOk Tryz.prog spec_Format.E := ⟨⟨spec_ConfigOk.sound, callable_of (by kernel_rfl)⟩, ⟨spec_l3Super.sound, callable_of (by kernel_rfl)⟩, ⟨spec_EpochLine.sound, callable_of (by kernel_rfl)⟩, ⟨spec_l1Zeros.sound, callable_of (by kernel_rfl)⟩, trivial⟩
theorem spec_Format.sound : Sound Tryz.prog 83 spec_Format.s := by
  refine func_sound (f := spec_Format.a) (G := spec_Format.G) (fn := Tryz.f83) (body := bodyOf Tryz.prog 83) 1000 (by kernel_rfl) spec_Format.E_ok Tryz.func83 (by kernel_rfl) (by kernel_rfl) (by kernel_rfl) (ptsOk_of (by kernel_rfl)) ?_ ?_ ?_ ?_
  · intro r H x h
    unfold spec_Format.a at h
    simp only at h
    split at h
    · cases h; rfl
    · cases h
  · intro q avs H; rfl
  · intro k q pt avs H x _ h; cases h
  · intro k avs H o h
    try dsimp only at h
    split at h
    · cases h; exact spec_Format.eq _ _ _ _ _
    · cases h

def spec_l6MapOf.a : FnA (ByteArray) := ⟨31, [.tmp 2], .val, [], [⟨8, [0, 3, 4], [.con (.int .i64), .row 5 (.int .u8), .val], []⟩], fun x H => match x, H with
  | .v (.string r), [] => some r
  | _, _ => none⟩
def spec_l6MapOf.s : Spec := mkS [.con (.int .i64)] (fun k avs H => match avs, H with
  | [.con (.int .i64) a0], [] => some (spec_l6MapOf.f k a0)
  | _, _ => none) (fun r => (.v (.string r), []))
def spec_l6MapOf.E : Env := []
def spec_l6MapOf.G8 (k : Nat) (avs : List AV) (H : List HE) : Option (ByteArray) := match avs, H with
  | [.con (.int .i64) x0, .own 0, .v (.int .i64 x4)], [.row 5 (.int .u8) x3] => spec_l6MapOf.p8 k x0 x3 x4
  | _, _ => none
def spec_l6MapOf.G (k p : Nat) (avs : List AV) (H : List HE) : Option (ByteArray) := (pick1 8 (spec_l6MapOf.G8 k avs H) none p)
set_option maxRecDepth 100000 in
theorem spec_l6MapOf.eq (k : Nat) (a0 : List Int) : fromTop Tryz.prog spec_l6MapOf.E k spec_l6MapOf.a (spec_l6MapOf.G k) 1000 (bodyOf Tryz.prog 84) [.con (.int .i64) a0] [] = spec_l6MapOf.f k a0 := by kernel_rfl
set_option maxRecDepth 100000 in
theorem spec_l6MapOf.eq8 (k : Nat) (x0 : List Int) (x3 : List Int) (x4 : Int) : fromPt Tryz.prog spec_l6MapOf.E k spec_l6MapOf.a (spec_l6MapOf.G k) 1000 (bodyOf Tryz.prog 84) 8 [.con (.int .i64) x0, .own 0, .v (.int .i64 x4)] [.row 5 (.int .u8) x3] = spec_l6MapOf.p8 (k + 1) x0 x3 x4 := by kernel_rfl
theorem spec_l6MapOf.G8_0 {avs : List AV} {H : List HE} : spec_l6MapOf.G8 0 avs H = none := by unfold spec_l6MapOf.G8; split <;> rfl
theorem spec_l6MapOf.G8_s (k : Nat) {avs : List AV} {H : List HE} {x : ByteArray} (h : spec_l6MapOf.G8 (k + 1) avs H = some x) : fromPt Tryz.prog spec_l6MapOf.E k spec_l6MapOf.a (spec_l6MapOf.G k) 1000 (bodyOf Tryz.prog 84) 8 avs H = some x := by
  unfold spec_l6MapOf.G8 at h
  split at h
  · rw [← h]; exact spec_l6MapOf.eq8 _ _ _ _
  · cases h
theorem spec_l6MapOf.E_ok : EnvOk Tryz.prog spec_l6MapOf.E := trivial
theorem spec_l6MapOf.sound : Sound Tryz.prog 84 spec_l6MapOf.s := by
  refine func_sound (f := spec_l6MapOf.a) (G := spec_l6MapOf.G) (fn := Tryz.f84) (body := bodyOf Tryz.prog 84) 1000 (by kernel_rfl) spec_l6MapOf.E_ok Tryz.func84 (by kernel_rfl) (by kernel_rfl) (by kernel_rfl) (ptsOk_of (by kernel_rfl)) ?_ ?_ ?_ ?_
  · intro r H x h
    unfold spec_l6MapOf.a at h
    simp only at h
    split at h
    · cases h; rfl
    · cases h
  · exact fun q avs H => pick1_none spec_l6MapOf.G8_0 (rfl)
  · intro k q pt avs H x _ h
    rcases pick1_some h with ⟨rfl, h⟩ | h
    · exact spec_l6MapOf.G8_s _ h
    cases h
  · intro k avs H o h
    try dsimp only at h
    split at h
    · cases h; exact spec_l6MapOf.eq _ _
    · cases h

def spec_RunOf.a : FnA (Int) := ⟨11, [.tmp 2], .val, [], [], fun x H => match x, H with
  | .v (.int .i64 r), [] => some r
  | _, _ => none⟩
def spec_RunOf.s : Spec := mkS [.val] (fun k avs H => match avs, H with
  | [.v (.string a0)], [] => some (spec_RunOf.f k a0)
  | _, _ => none) (fun r => (.v (.int .i64 r), []))
def spec_RunOf.E : Env := [((103, []), spec_l3Type.s)]
def spec_RunOf.G (k p : Nat) (avs : List AV) (H : List HE) : Option (Int) := none
set_option maxRecDepth 100000 in
theorem spec_RunOf.eq (k : Nat) (a0 : ByteArray) : fromTop Tryz.prog spec_RunOf.E k spec_RunOf.a (spec_RunOf.G k) 1000 (bodyOf Tryz.prog 65) [.v (.string a0)] [] = spec_RunOf.f k a0 := by kernel_rfl
theorem spec_RunOf.E_ok : EnvOk Tryz.prog spec_RunOf.E := ⟨⟨spec_l3Type.sound, callable_of (by kernel_rfl)⟩, trivial⟩
theorem spec_RunOf.sound : Sound Tryz.prog 65 spec_RunOf.s := by
  refine func_sound (f := spec_RunOf.a) (G := spec_RunOf.G) (fn := Tryz.f65) (body := bodyOf Tryz.prog 65) 1000 (by kernel_rfl) spec_RunOf.E_ok Tryz.func65 (by kernel_rfl) (by kernel_rfl) (by kernel_rfl) (ptsOk_of (by kernel_rfl)) ?_ ?_ ?_ ?_
  · intro r H x h
    unfold spec_RunOf.a at h
    simp only at h
    split at h
    · cases h; rfl
    · cases h
  · intro q avs H; rfl
  · intro k q pt avs H x _ h; cases h
  · intro k avs H o h
    try dsimp only at h
    split at h
    · cases h; exact spec_RunOf.eq _ _
    · cases h

def spec_l6Map.a : FnA (Bool) := ⟨10, [.tmp 2], .bool, [], [], fun x H => match x, H with
  | .bs false r, [] => some r
  | _, _ => none⟩
def spec_l6Map.s : Spec := mkS [.val] (fun k avs H => match avs, H with
  | [.v (.string a0)], [] => some (spec_l6Map.f a0)
  | _, _ => none) (fun r => (.bs false r, []))
def spec_l6Map.E : Env := [((63, []), spec_l1Zeros.s)]
def spec_l6Map.G (k p : Nat) (avs : List AV) (H : List HE) : Option (Bool) := none
set_option maxRecDepth 100000 in
theorem spec_l6Map.eq (k : Nat) (a0 : ByteArray) : fromTop Tryz.prog spec_l6Map.E k spec_l6Map.a (spec_l6Map.G k) 1000 (bodyOf Tryz.prog 157) [.v (.string a0)] [] = spec_l6Map.f a0 := by kernel_rfl
theorem spec_l6Map.E_ok : EnvOk Tryz.prog spec_l6Map.E := ⟨⟨spec_l1Zeros.sound, callable_of (by kernel_rfl)⟩, trivial⟩
theorem spec_l6Map.sound : Sound Tryz.prog 157 spec_l6Map.s := by
  refine func_sound (f := spec_l6Map.a) (G := spec_l6Map.G) (fn := Tryz.f157) (body := bodyOf Tryz.prog 157) 1000 (by kernel_rfl) spec_l6Map.E_ok Tryz.func157 (by kernel_rfl) (by kernel_rfl) (by kernel_rfl) (ptsOk_of (by kernel_rfl)) ?_ ?_ ?_ ?_
  · intro r H x h
    unfold spec_l6Map.a at h
    simp only at h
    split at h
    · cases h; rfl
    · cases h
  · intro q avs H; rfl
  · intro k q pt avs H x _ h; cases h
  · intro k avs H o h
    try dsimp only at h
    split at h
    · cases h; exact spec_l6Map.eq _ _
    · cases h

def spec_l6Range.a : FnA (Bool) := ⟨22, [.tmp 6], .bool, [], [], fun x H => match x, H with
  | .bs false r, [] => some r
  | _, _ => none⟩
def spec_l6Range.s : Spec := mkS [.val, .val, .val] (fun k avs H => match avs, H with
  | [.v (.string a0), .v (.int .i64 a1), .v (.int .i64 a2)], [] => some (spec_l6Range.f a0 a1 a2)
  | _, _ => none) (fun r => (.bs false r, []))
def spec_l6Range.E : Env := [((157, []), spec_l6Map.s)]
def spec_l6Range.G (k p : Nat) (avs : List AV) (H : List HE) : Option (Bool) := none
set_option maxRecDepth 100000 in
theorem spec_l6Range.eq (k : Nat) (a0 : ByteArray) (a1 : Int) (a2 : Int) : fromTop Tryz.prog spec_l6Range.E k spec_l6Range.a (spec_l6Range.G k) 1000 (bodyOf Tryz.prog 140) [.v (.string a0), .v (.int .i64 a1), .v (.int .i64 a2)] [] = spec_l6Range.f a0 a1 a2 := by kernel_rfl
theorem spec_l6Range.E_ok : EnvOk Tryz.prog spec_l6Range.E := ⟨⟨spec_l6Map.sound, callable_of (by kernel_rfl)⟩, trivial⟩
theorem spec_l6Range.sound : Sound Tryz.prog 140 spec_l6Range.s := by
  refine func_sound (f := spec_l6Range.a) (G := spec_l6Range.G) (fn := Tryz.f140) (body := bodyOf Tryz.prog 140) 1000 (by kernel_rfl) spec_l6Range.E_ok Tryz.func140 (by kernel_rfl) (by kernel_rfl) (by kernel_rfl) (ptsOk_of (by kernel_rfl)) ?_ ?_ ?_ ?_
  · intro r H x h
    unfold spec_l6Range.a at h
    simp only at h
    split at h
    · cases h; rfl
    · cases h
  · intro q avs H; rfl
  · intro k q pt avs H x _ h; cases h
  · intro k avs H o h
    try dsimp only at h
    split at h
    · cases h; exact spec_l6Range.eq _ _ _ _
    · cases h

def spec_l6Bit.a : FnA (Bool) := ⟨15, [.tmp 4], .bool, [], [], fun x H => match x, H with
  | .bs false r, [] => some r
  | _, _ => none⟩
def spec_l6Bit.s : Spec := mkS [.val, .val] (fun k avs H => match avs, H with
  | [.v (.string a0), .v (.int .i64 a1)], [] => some (spec_l6Bit.f a0 a1)
  | _, _ => none) (fun r => (.bs false r, []))
def spec_l6Bit.E : Env := []
def spec_l6Bit.G (k p : Nat) (avs : List AV) (H : List HE) : Option (Bool) := none
set_option maxRecDepth 100000 in
theorem spec_l6Bit.eq (k : Nat) (a0 : ByteArray) (a1 : Int) : fromTop Tryz.prog spec_l6Bit.E k spec_l6Bit.a (spec_l6Bit.G k) 1000 (bodyOf Tryz.prog 158) [.v (.string a0), .v (.int .i64 a1)] [] = spec_l6Bit.f a0 a1 := by kernel_rfl
theorem spec_l6Bit.E_ok : EnvOk Tryz.prog spec_l6Bit.E := trivial
theorem spec_l6Bit.sound : Sound Tryz.prog 158 spec_l6Bit.s := by
  refine func_sound (f := spec_l6Bit.a) (G := spec_l6Bit.G) (fn := Tryz.f158) (body := bodyOf Tryz.prog 158) 1000 (by kernel_rfl) spec_l6Bit.E_ok Tryz.func158 (by kernel_rfl) (by kernel_rfl) (by kernel_rfl) (ptsOk_of (by kernel_rfl)) ?_ ?_ ?_ ?_
  · intro r H x h
    unfold spec_l6Bit.a at h
    simp only at h
    split at h
    · cases h; rfl
    · cases h
  · intro q avs H; rfl
  · intro k q pt avs H x _ h; cases h
  · intro k avs H o h
    try dsimp only at h
    split at h
    · cases h; exact spec_l6Bit.eq _ _ _
    · cases h

def spec_l6Free.a : FnA (Bool) := ⟨19, [.tmp 6], .bool, [], [⟨6, [0, 1, 2, 7], [.val, .val, .val, .val], []⟩], fun x H => match x, H with
  | .bs false r, [] => some r
  | _, _ => none⟩
def spec_l6Free.s : Spec := mkS [.val, .val, .val] (fun k avs H => match avs, H with
  | [.v (.string a0), .v (.int .i64 a1), .v (.int .i64 a2)], [] => some (spec_l6Free.f k a0 a1 a2)
  | _, _ => none) (fun r => (.bs false r, []))
def spec_l6Free.E : Env := [((158, []), spec_l6Bit.s)]
def spec_l6Free.G6 (k : Nat) (avs : List AV) (H : List HE) : Option (Bool) := match avs, H with
  | [.v (.string x0), .v (.int .i64 x1), .v (.int .i64 x2), .v (.int .i64 x7)], [] => spec_l6Free.p6 k x0 x1 x2 x7
  | _, _ => none
def spec_l6Free.G (k p : Nat) (avs : List AV) (H : List HE) : Option (Bool) := (pick1 6 (spec_l6Free.G6 k avs H) none p)
set_option maxRecDepth 100000 in
theorem spec_l6Free.eq (k : Nat) (a0 : ByteArray) (a1 : Int) (a2 : Int) : fromTop Tryz.prog spec_l6Free.E k spec_l6Free.a (spec_l6Free.G k) 1000 (bodyOf Tryz.prog 141) [.v (.string a0), .v (.int .i64 a1), .v (.int .i64 a2)] [] = spec_l6Free.f k a0 a1 a2 := by kernel_rfl
set_option maxRecDepth 100000 in
theorem spec_l6Free.eq6 (k : Nat) (x0 : ByteArray) (x1 : Int) (x2 : Int) (x7 : Int) : fromPt Tryz.prog spec_l6Free.E k spec_l6Free.a (spec_l6Free.G k) 1000 (bodyOf Tryz.prog 141) 6 [.v (.string x0), .v (.int .i64 x1), .v (.int .i64 x2), .v (.int .i64 x7)] [] = spec_l6Free.p6 (k + 1) x0 x1 x2 x7 := by kernel_rfl
theorem spec_l6Free.G6_0 {avs : List AV} {H : List HE} : spec_l6Free.G6 0 avs H = none := by unfold spec_l6Free.G6; split <;> rfl
theorem spec_l6Free.G6_s (k : Nat) {avs : List AV} {H : List HE} {x : Bool} (h : spec_l6Free.G6 (k + 1) avs H = some x) : fromPt Tryz.prog spec_l6Free.E k spec_l6Free.a (spec_l6Free.G k) 1000 (bodyOf Tryz.prog 141) 6 avs H = some x := by
  unfold spec_l6Free.G6 at h
  split at h
  · rw [← h]; exact spec_l6Free.eq6 _ _ _ _ _
  · cases h
theorem spec_l6Free.E_ok : EnvOk Tryz.prog spec_l6Free.E := ⟨⟨spec_l6Bit.sound, callable_of (by kernel_rfl)⟩, trivial⟩
theorem spec_l6Free.sound : Sound Tryz.prog 141 spec_l6Free.s := by
  refine func_sound (f := spec_l6Free.a) (G := spec_l6Free.G) (fn := Tryz.f141) (body := bodyOf Tryz.prog 141) 1000 (by kernel_rfl) spec_l6Free.E_ok Tryz.func141 (by kernel_rfl) (by kernel_rfl) (by kernel_rfl) (ptsOk_of (by kernel_rfl)) ?_ ?_ ?_ ?_
  · intro r H x h
    unfold spec_l6Free.a at h
    simp only at h
    split at h
    · cases h; rfl
    · cases h
  · exact fun q avs H => pick1_none spec_l6Free.G6_0 (rfl)
  · intro k q pt avs H x _ h
    rcases pick1_some h with ⟨rfl, h⟩ | h
    · exact spec_l6Free.G6_s _ h
    cases h
  · intro k avs H o h
    try dsimp only at h
    split at h
    · cases h; exact spec_l6Free.eq _ _ _ _
    · cases h

def spec_FindRun.a : FnA (Int) := ⟨33, [.tmp 8], .val, [], [⟨14, [0, 2, 3, 9], [.val, .val, .val, .val], []⟩], fun x H => match x, H with
  | .v (.int .i64 r), [] => some r
  | _, _ => none⟩
def spec_FindRun.s : Spec := mkS [.val, .val, .val, .val] (fun k avs H => match avs, H with
  | [.v (.string a0), .v (.int .i64 a1), .v (.int .i64 a2), .v (.int .i64 a3)], [] => some (spec_FindRun.f k a0 a1 a2 a3)
  | _, _ => none) (fun r => (.v (.int .i64 r), []))
def spec_FindRun.E : Env := [((140, []), spec_l6Range.s), ((108, []), spec_l1In.s), ((141, []), spec_l6Free.s)]
def spec_FindRun.G14 (k : Nat) (avs : List AV) (H : List HE) : Option (Int) := match avs, H with
  | [.v (.string x0), .v (.int .i64 x2), .v (.int .i64 x3), .v (.int .i64 x9)], [] => spec_FindRun.p14 k x0 x2 x3 x9
  | _, _ => none
def spec_FindRun.G (k p : Nat) (avs : List AV) (H : List HE) : Option (Int) := (pick1 14 (spec_FindRun.G14 k avs H) none p)
set_option maxRecDepth 100000 in
theorem spec_FindRun.eq (k : Nat) (a0 : ByteArray) (a1 : Int) (a2 : Int) (a3 : Int) : fromTop Tryz.prog spec_FindRun.E k spec_FindRun.a (spec_FindRun.G k) 1000 (bodyOf Tryz.prog 117) [.v (.string a0), .v (.int .i64 a1), .v (.int .i64 a2), .v (.int .i64 a3)] [] = spec_FindRun.f k a0 a1 a2 a3 := by kernel_rfl
set_option maxRecDepth 100000 in
theorem spec_FindRun.eq14 (k : Nat) (x0 : ByteArray) (x2 : Int) (x3 : Int) (x9 : Int) : fromPt Tryz.prog spec_FindRun.E k spec_FindRun.a (spec_FindRun.G k) 1000 (bodyOf Tryz.prog 117) 14 [.v (.string x0), .v (.int .i64 x2), .v (.int .i64 x3), .v (.int .i64 x9)] [] = spec_FindRun.p14 (k + 1) x0 x2 x3 x9 := by kernel_rfl
theorem spec_FindRun.G14_0 {avs : List AV} {H : List HE} : spec_FindRun.G14 0 avs H = none := by unfold spec_FindRun.G14; split <;> rfl
theorem spec_FindRun.G14_s (k : Nat) {avs : List AV} {H : List HE} {x : Int} (h : spec_FindRun.G14 (k + 1) avs H = some x) : fromPt Tryz.prog spec_FindRun.E k spec_FindRun.a (spec_FindRun.G k) 1000 (bodyOf Tryz.prog 117) 14 avs H = some x := by
  unfold spec_FindRun.G14 at h
  split at h
  · rw [← h]; exact spec_FindRun.eq14 _ _ _ _ _
  · cases h
theorem spec_FindRun.E_ok : EnvOk Tryz.prog spec_FindRun.E := ⟨⟨spec_l6Range.sound, callable_of (by kernel_rfl)⟩, ⟨spec_l1In.sound, callable_of (by kernel_rfl)⟩, ⟨spec_l6Free.sound, callable_of (by kernel_rfl)⟩, trivial⟩
theorem spec_FindRun.sound : Sound Tryz.prog 117 spec_FindRun.s := by
  refine func_sound (f := spec_FindRun.a) (G := spec_FindRun.G) (fn := Tryz.f117) (body := bodyOf Tryz.prog 117) 1000 (by kernel_rfl) spec_FindRun.E_ok Tryz.func117 (by kernel_rfl) (by kernel_rfl) (by kernel_rfl) (ptsOk_of (by kernel_rfl)) ?_ ?_ ?_ ?_
  · intro r H x h
    unfold spec_FindRun.a at h
    simp only at h
    split at h
    · cases h; rfl
    · cases h
  · exact fun q avs H => pick1_none spec_FindRun.G14_0 (rfl)
  · intro k q pt avs H x _ h
    rcases pick1_some h with ⟨rfl, h⟩ | h
    · exact spec_FindRun.G14_s _ h
    cases h
  · intro k avs H o h
    try dsimp only at h
    split at h
    · cases h; exact spec_FindRun.eq _ _ _ _ _
    · cases h

def spec_l6Turn.a : FnA (ByteArray) := ⟨32, [.tmp 6], .val, [], [⟨8, [1, 2, 7, 8], [.val, .val, .row 0 .bool, .val], []⟩], fun x H => match x, H with
  | .v (.string r), [] => some r
  | _, _ => none⟩
def spec_l6Turn.s : Spec := mkS [.val, .val, .val] (fun k avs H => match avs, H with
  | [.v (.string a0), .v (.int .i64 a1), .v (.int .i64 a2)], [] => some (spec_l6Turn.f k a0 a1 a2)
  | _, _ => none) (fun r => (.v (.string r), []))
def spec_l6Turn.E : Env := []
def spec_l6Turn.G8 (k : Nat) (avs : List AV) (H : List HE) : Option (ByteArray) := match avs, H with
  | [.v (.int .i64 x1), .v (.int .i64 x2), .own 0, .v (.int .i64 x8)], [.bts x7] => spec_l6Turn.p8 k x1 x2 x7 x8
  | _, _ => none
def spec_l6Turn.G (k p : Nat) (avs : List AV) (H : List HE) : Option (ByteArray) := (pick1 8 (spec_l6Turn.G8 k avs H) none p)
set_option maxRecDepth 100000 in
theorem spec_l6Turn.eq (k : Nat) (a0 : ByteArray) (a1 : Int) (a2 : Int) : fromTop Tryz.prog spec_l6Turn.E k spec_l6Turn.a (spec_l6Turn.G k) 1000 (bodyOf Tryz.prog 64) [.v (.string a0), .v (.int .i64 a1), .v (.int .i64 a2)] [] = spec_l6Turn.f k a0 a1 a2 := by kernel_rfl
set_option maxRecDepth 100000 in
theorem spec_l6Turn.eq8 (k : Nat) (x1 : Int) (x2 : Int) (x7 : List Int) (x8 : Int) : fromPt Tryz.prog spec_l6Turn.E k spec_l6Turn.a (spec_l6Turn.G k) 1000 (bodyOf Tryz.prog 64) 8 [.v (.int .i64 x1), .v (.int .i64 x2), .own 0, .v (.int .i64 x8)] [.bts x7] = spec_l6Turn.p8 (k + 1) x1 x2 x7 x8 := by kernel_rfl
theorem spec_l6Turn.G8_0 {avs : List AV} {H : List HE} : spec_l6Turn.G8 0 avs H = none := by unfold spec_l6Turn.G8; split <;> rfl
theorem spec_l6Turn.G8_s (k : Nat) {avs : List AV} {H : List HE} {x : ByteArray} (h : spec_l6Turn.G8 (k + 1) avs H = some x) : fromPt Tryz.prog spec_l6Turn.E k spec_l6Turn.a (spec_l6Turn.G k) 1000 (bodyOf Tryz.prog 64) 8 avs H = some x := by
  unfold spec_l6Turn.G8 at h
  split at h
  · rw [← h]; exact spec_l6Turn.eq8 _ _ _ _ _
  · cases h
theorem spec_l6Turn.E_ok : EnvOk Tryz.prog spec_l6Turn.E := trivial
theorem spec_l6Turn.sound : Sound Tryz.prog 64 spec_l6Turn.s := by
  refine func_sound (f := spec_l6Turn.a) (G := spec_l6Turn.G) (fn := Tryz.f64) (body := bodyOf Tryz.prog 64) 1000 (by kernel_rfl) spec_l6Turn.E_ok Tryz.func64 (by kernel_rfl) (by kernel_rfl) (by kernel_rfl) (ptsOk_of (by kernel_rfl)) ?_ ?_ ?_ ?_
  · intro r H x h
    unfold spec_l6Turn.a at h
    simp only at h
    split at h
    · cases h; rfl
    · cases h
  · exact fun q avs H => pick1_none spec_l6Turn.G8_0 (rfl)
  · intro k q pt avs H x _ h
    rcases pick1_some h with ⟨rfl, h⟩ | h
    · exact spec_l6Turn.G8_s _ h
    cases h
  · intro k avs H o h
    try dsimp only at h
    split at h
    · cases h; exact spec_l6Turn.eq _ _ _ _
    · cases h

def spec_l10Plan.a : FnA (List Int × ByteArray × Bool) := ⟨49, [.tmp 6, .tmp 7, .tmp 8], .tup [.row 2 (.int .i64), .val, .bool], [], [⟨8, [1, 2, 3, 9, 10], [.val, .con (.int .i64), .box [.val, .val, .val, .con .str], .row 2 (.int .i64), .val], []⟩], fun x H => match x, H with
  | .tup [.own 0, .v (.string r_1), .bs false r_2], [.row 2 (.int .i64) r_0] => some (r_0, r_1, r_2)
  | _, _ => none⟩
def spec_l10Plan.s : Spec := mkS [.agg [.val, .val, .val, .con .str], .val, .con (.int .i64)] (fun k avs H => match avs, H with
  | [.agg [.v (.int .i64 a0_0), .v (.int .i64 a0_1), .v (.int .i64 a0_2), .con .str a0_3], .v (.string a1), .con (.int .i64) a2], [] => some (spec_l10Plan.f k a0_0 a0_1 a0_2 a0_3 a1 a2)
  | _, _ => none) (fun r => (.tup [.own 0, .v (.string r.2.1), .bs false r.2.2], [.row 2 (.int .i64) r.1]))
def spec_l10Plan.E : Env := [((65, []), spec_RunOf.s), ((117, []), spec_FindRun.s), ((64, []), spec_l6Turn.s)]
def spec_l10Plan.G8 (k : Nat) (avs : List AV) (H : List HE) : Option (List Int × ByteArray × Bool) := match avs, H with
  | [.v (.string x1), .con (.int .i64) x2, .box 0 0, .own 1, .v (.int .i64 x10)], [.box [.v (.int .i64 x3_0), .v (.int .i64 x3_1), .v (.int .i64 x3_2), .con .str x3_3], .row 2 (.int .i64) x9] => spec_l10Plan.p8 k x1 x2 x3_0 x3_1 x3_2 x3_3 x9 x10
  | _, _ => none
def spec_l10Plan.G (k p : Nat) (avs : List AV) (H : List HE) : Option (List Int × ByteArray × Bool) := (pick1 8 (spec_l10Plan.G8 k avs H) none p)
set_option maxRecDepth 100000 in
theorem spec_l10Plan.eq (k : Nat) (a0_0 : Int) (a0_1 : Int) (a0_2 : Int) (a0_3 : List ByteArray) (a1 : ByteArray) (a2 : List Int) : fromTop Tryz.prog spec_l10Plan.E k spec_l10Plan.a (spec_l10Plan.G k) 1000 (bodyOf Tryz.prog 85) [.agg [.v (.int .i64 a0_0), .v (.int .i64 a0_1), .v (.int .i64 a0_2), .con .str a0_3], .v (.string a1), .con (.int .i64) a2] [] = spec_l10Plan.f k a0_0 a0_1 a0_2 a0_3 a1 a2 := by kernel_rfl
set_option maxRecDepth 100000 in
theorem spec_l10Plan.eq8 (k : Nat) (x1 : ByteArray) (x2 : List Int) (x3_0 : Int) (x3_1 : Int) (x3_2 : Int) (x3_3 : List ByteArray) (x9 : List Int) (x10 : Int) : fromPt Tryz.prog spec_l10Plan.E k spec_l10Plan.a (spec_l10Plan.G k) 1000 (bodyOf Tryz.prog 85) 8 [.v (.string x1), .con (.int .i64) x2, .box 0 0, .own 1, .v (.int .i64 x10)] [.box [.v (.int .i64 x3_0), .v (.int .i64 x3_1), .v (.int .i64 x3_2), .con .str x3_3], .row 2 (.int .i64) x9] = spec_l10Plan.p8 (k + 1) x1 x2 x3_0 x3_1 x3_2 x3_3 x9 x10 := by kernel_rfl
theorem spec_l10Plan.G8_0 {avs : List AV} {H : List HE} : spec_l10Plan.G8 0 avs H = none := by unfold spec_l10Plan.G8; split <;> rfl
theorem spec_l10Plan.G8_s (k : Nat) {avs : List AV} {H : List HE} {x : List Int × ByteArray × Bool} (h : spec_l10Plan.G8 (k + 1) avs H = some x) : fromPt Tryz.prog spec_l10Plan.E k spec_l10Plan.a (spec_l10Plan.G k) 1000 (bodyOf Tryz.prog 85) 8 avs H = some x := by
  unfold spec_l10Plan.G8 at h
  split at h
  · rw [← h]; exact spec_l10Plan.eq8 _ _ _ _ _ _ _ _ _
  · cases h
theorem spec_l10Plan.E_ok : EnvOk Tryz.prog spec_l10Plan.E := ⟨⟨spec_RunOf.sound, callable_of (by kernel_rfl)⟩, ⟨spec_FindRun.sound, callable_of (by kernel_rfl)⟩, ⟨spec_l6Turn.sound, callable_of (by kernel_rfl)⟩, trivial⟩
theorem spec_l10Plan.sound : Sound Tryz.prog 85 spec_l10Plan.s := by
  refine func_sound (f := spec_l10Plan.a) (G := spec_l10Plan.G) (fn := Tryz.f85) (body := bodyOf Tryz.prog 85) 1000 (by kernel_rfl) spec_l10Plan.E_ok Tryz.func85 (by kernel_rfl) (by kernel_rfl) (by kernel_rfl) (ptsOk_of (by kernel_rfl)) ?_ ?_ ?_ ?_
  · intro r H x h
    unfold spec_l10Plan.a at h
    simp only at h
    split at h
    · cases h; rfl
    · cases h
  · exact fun q avs H => pick1_none spec_l10Plan.G8_0 (rfl)
  · intro k q pt avs H x _ h
    rcases pick1_some h with ⟨rfl, h⟩ | h
    · exact spec_l10Plan.G8_s _ h
    cases h
  · intro k avs H o h
    try dsimp only at h
    split at h
    · cases h; exact spec_l10Plan.eq _ _ _ _ _ _ _
    · cases h

def spec_l10Lies.a : FnA (Int) := ⟨19, [.tmp 4], .val, [], [], fun x H => match x, H with
  | .v (.int .i64 r), [] => some r
  | _, _ => none⟩
def spec_l10Lies.s : Spec := mkS [.con (.int .i64), .val] (fun k avs H => match avs, H with
  | [.con (.int .i64) a0, .v (.int .i64 a1)], [] => some (spec_l10Lies.f a0 a1)
  | _, _ => none) (fun r => (.v (.int .i64 r), []))
def spec_l10Lies.E : Env := []
def spec_l10Lies.G (k p : Nat) (avs : List AV) (H : List HE) : Option (Int) := none
set_option maxRecDepth 100000 in
theorem spec_l10Lies.eq (k : Nat) (a0 : List Int) (a1 : Int) : fromTop Tryz.prog spec_l10Lies.E k spec_l10Lies.a (spec_l10Lies.G k) 1000 (bodyOf Tryz.prog 86) [.con (.int .i64) a0, .v (.int .i64 a1)] [] = spec_l10Lies.f a0 a1 := by kernel_rfl
theorem spec_l10Lies.E_ok : EnvOk Tryz.prog spec_l10Lies.E := trivial
theorem spec_l10Lies.sound : Sound Tryz.prog 86 spec_l10Lies.s := by
  refine func_sound (f := spec_l10Lies.a) (G := spec_l10Lies.G) (fn := Tryz.f86) (body := bodyOf Tryz.prog 86) 1000 (by kernel_rfl) spec_l10Lies.E_ok Tryz.func86 (by kernel_rfl) (by kernel_rfl) (by kernel_rfl) (ptsOk_of (by kernel_rfl)) ?_ ?_ ?_ ?_
  · intro r H x h
    unfold spec_l10Lies.a at h
    simp only at h
    split at h
    · cases h; rfl
    · cases h
  · intro q avs H; rfl
  · intro k q pt avs H x _ h; cases h
  · intro k avs H o h
    try dsimp only at h
    split at h
    · cases h; exact spec_l10Lies.eq _ _ _
    · cases h

def spec_RefKind.a : FnA (Int) := ⟨22, [.tmp 2], .val, [], [], fun x H => match x, H with
  | .v (.int .i64 r), [] => some r
  | _, _ => none⟩
def spec_RefKind.s : Spec := mkS [.val] (fun k avs H => match avs, H with
  | [.v (.int .i64 a0)], [] => some (spec_RefKind.f a0)
  | _, _ => none) (fun r => (.v (.int .i64 r), []))
def spec_RefKind.E : Env := [((108, []), spec_l1In.s)]
def spec_RefKind.G (k p : Nat) (avs : List AV) (H : List HE) : Option (Int) := none
set_option maxRecDepth 100000 in
theorem spec_RefKind.eq (k : Nat) (a0 : Int) : fromTop Tryz.prog spec_RefKind.E k spec_RefKind.a (spec_RefKind.G k) 1000 (bodyOf Tryz.prog 110) [.v (.int .i64 a0)] [] = spec_RefKind.f a0 := by kernel_rfl
theorem spec_RefKind.E_ok : EnvOk Tryz.prog spec_RefKind.E := ⟨⟨spec_l1In.sound, callable_of (by kernel_rfl)⟩, trivial⟩
theorem spec_RefKind.sound : Sound Tryz.prog 110 spec_RefKind.s := by
  refine func_sound (f := spec_RefKind.a) (G := spec_RefKind.G) (fn := Tryz.f110) (body := bodyOf Tryz.prog 110) 1000 (by kernel_rfl) spec_RefKind.E_ok Tryz.func110 (by kernel_rfl) (by kernel_rfl) (by kernel_rfl) (ptsOk_of (by kernel_rfl)) ?_ ?_ ?_ ?_
  · intro r H x h
    unfold spec_RefKind.a at h
    simp only at h
    split at h
    · cases h; rfl
    · cases h
  · intro q avs H; rfl
  · intro k q pt avs H x _ h; cases h
  · intro k avs H o h
    try dsimp only at h
    split at h
    · cases h; exact spec_RefKind.eq _ _
    · cases h

def spec_ObjOk.a : FnA (Bool) := ⟨54, [.tmp 4], .bool, [], [⟨14, [0, 3, 5], [.con .str, .box [.val, .con (.int .i64)], .val], []⟩], fun x H => match x, H with
  | .bs false r, [] => some r
  | _, _ => none⟩
def spec_ObjOk.s : Spec := mkS [.con .str, .agg [.val, .con (.int .i64)]] (fun k avs H => match avs, H with
  | [.con .str a0, .agg [.v (.int .i64 a1_0), .con (.int .i64) a1_1]], [] => some (spec_ObjOk.f k a0 a1_0 a1_1)
  | _, _ => none) (fun r => (.bs false r, []))
def spec_ObjOk.E : Env := [((109, []), spec_TypesOk.s), ((108, []), spec_l1In.s), ((110, []), spec_RefKind.s)]
def spec_ObjOk.G14 (k : Nat) (avs : List AV) (H : List HE) : Option (Bool) := match avs, H with
  | [.con .str x0, .box 0 0, .v (.int .i64 x5)], [.box [.v (.int .i64 x3_0), .con (.int .i64) x3_1]] => spec_ObjOk.p14 k x0 x3_0 x3_1 x5
  | _, _ => none
def spec_ObjOk.G (k p : Nat) (avs : List AV) (H : List HE) : Option (Bool) := (pick1 14 (spec_ObjOk.G14 k avs H) none p)
set_option maxRecDepth 100000 in
theorem spec_ObjOk.eq (k : Nat) (a0 : List ByteArray) (a1_0 : Int) (a1_1 : List Int) : fromTop Tryz.prog spec_ObjOk.E k spec_ObjOk.a (spec_ObjOk.G k) 1000 (bodyOf Tryz.prog 118) [.con .str a0, .agg [.v (.int .i64 a1_0), .con (.int .i64) a1_1]] [] = spec_ObjOk.f k a0 a1_0 a1_1 := by kernel_rfl
set_option maxRecDepth 100000 in
theorem spec_ObjOk.eq14 (k : Nat) (x0 : List ByteArray) (x3_0 : Int) (x3_1 : List Int) (x5 : Int) : fromPt Tryz.prog spec_ObjOk.E k spec_ObjOk.a (spec_ObjOk.G k) 1000 (bodyOf Tryz.prog 118) 14 [.con .str x0, .box 0 0, .v (.int .i64 x5)] [.box [.v (.int .i64 x3_0), .con (.int .i64) x3_1]] = spec_ObjOk.p14 (k + 1) x0 x3_0 x3_1 x5 := by kernel_rfl
theorem spec_ObjOk.G14_0 {avs : List AV} {H : List HE} : spec_ObjOk.G14 0 avs H = none := by unfold spec_ObjOk.G14; split <;> rfl
theorem spec_ObjOk.G14_s (k : Nat) {avs : List AV} {H : List HE} {x : Bool} (h : spec_ObjOk.G14 (k + 1) avs H = some x) : fromPt Tryz.prog spec_ObjOk.E k spec_ObjOk.a (spec_ObjOk.G k) 1000 (bodyOf Tryz.prog 118) 14 avs H = some x := by
  unfold spec_ObjOk.G14 at h
  split at h
  · rw [← h]; exact spec_ObjOk.eq14 _ _ _ _ _
  · cases h
theorem spec_ObjOk.E_ok : EnvOk Tryz.prog spec_ObjOk.E := ⟨⟨spec_TypesOk.sound, callable_of (by kernel_rfl)⟩, ⟨spec_l1In.sound, callable_of (by kernel_rfl)⟩, ⟨spec_RefKind.sound, callable_of (by kernel_rfl)⟩, trivial⟩
theorem spec_ObjOk.sound : Sound Tryz.prog 118 spec_ObjOk.s := by
  refine func_sound (f := spec_ObjOk.a) (G := spec_ObjOk.G) (fn := Tryz.f118) (body := bodyOf Tryz.prog 118) 1000 (by kernel_rfl) spec_ObjOk.E_ok Tryz.func118 (by kernel_rfl) (by kernel_rfl) (by kernel_rfl) (ptsOk_of (by kernel_rfl)) ?_ ?_ ?_ ?_
  · intro r H x h
    unfold spec_ObjOk.a at h
    simp only at h
    split at h
    · cases h; rfl
    · cases h
  · exact fun q avs H => pick1_none spec_ObjOk.G14_0 (rfl)
  · intro k q pt avs H x _ h
    rcases pick1_some h with ⟨rfl, h⟩ | h
    · exact spec_ObjOk.G14_s _ h
    cases h
  · intro k avs H o h
    try dsimp only at h
    split at h
    · cases h; exact spec_ObjOk.eq _ _ _ _
    · cases h

def spec_ObjectBytes.a : FnA (ByteArray) := ⟨43, [.tmp 4], .val, [], [⟨16, [0, 3, 5, 6], [.con .str, .box [.val, .con (.int .i64)], .val, .val], []⟩], fun x H => match x, H with
  | .v (.string r), [] => some r
  | _, _ => none⟩
def spec_ObjectBytes.s : Spec := mkS [.con .str, .agg [.val, .con (.int .i64)]] (fun k avs H => match avs, H with
  | [.con .str a0, .agg [.v (.int .i64 a1_0), .con (.int .i64) a1_1]], [] => some (spec_ObjectBytes.f k a0 a1_0 a1_1)
  | _, _ => none) (fun r => (.v (.string r), []))
def spec_ObjectBytes.E : Env := [((118, []), spec_ObjOk.s), ((89, []), spec_WordBytes.s), ((65, []), spec_RunOf.s), ((63, []), spec_l1Zeros.s)]
def spec_ObjectBytes.G16 (k : Nat) (avs : List AV) (H : List HE) : Option (ByteArray) := match avs, H with
  | [.con .str x0, .box 0 0, .v (.string x5), .v (.int .i64 x6)], [.box [.v (.int .i64 x3_0), .con (.int .i64) x3_1]] => spec_ObjectBytes.p16 k x0 x3_0 x3_1 x5 x6
  | _, _ => none
def spec_ObjectBytes.G (k p : Nat) (avs : List AV) (H : List HE) : Option (ByteArray) := (pick1 16 (spec_ObjectBytes.G16 k avs H) none p)
set_option maxRecDepth 100000 in
theorem spec_ObjectBytes.eq (k : Nat) (a0 : List ByteArray) (a1_0 : Int) (a1_1 : List Int) : fromTop Tryz.prog spec_ObjectBytes.E k spec_ObjectBytes.a (spec_ObjectBytes.G k) 1000 (bodyOf Tryz.prog 88) [.con .str a0, .agg [.v (.int .i64 a1_0), .con (.int .i64) a1_1]] [] = spec_ObjectBytes.f k a0 a1_0 a1_1 := by kernel_rfl
set_option maxRecDepth 100000 in
theorem spec_ObjectBytes.eq16 (k : Nat) (x0 : List ByteArray) (x3_0 : Int) (x3_1 : List Int) (x5 : ByteArray) (x6 : Int) : fromPt Tryz.prog spec_ObjectBytes.E k spec_ObjectBytes.a (spec_ObjectBytes.G k) 1000 (bodyOf Tryz.prog 88) 16 [.con .str x0, .box 0 0, .v (.string x5), .v (.int .i64 x6)] [.box [.v (.int .i64 x3_0), .con (.int .i64) x3_1]] = spec_ObjectBytes.p16 (k + 1) x0 x3_0 x3_1 x5 x6 := by kernel_rfl
theorem spec_ObjectBytes.G16_0 {avs : List AV} {H : List HE} : spec_ObjectBytes.G16 0 avs H = none := by unfold spec_ObjectBytes.G16; split <;> rfl
theorem spec_ObjectBytes.G16_s (k : Nat) {avs : List AV} {H : List HE} {x : ByteArray} (h : spec_ObjectBytes.G16 (k + 1) avs H = some x) : fromPt Tryz.prog spec_ObjectBytes.E k spec_ObjectBytes.a (spec_ObjectBytes.G k) 1000 (bodyOf Tryz.prog 88) 16 avs H = some x := by
  unfold spec_ObjectBytes.G16 at h
  split at h
  · rw [← h]; exact spec_ObjectBytes.eq16 _ _ _ _ _ _
  · cases h
theorem spec_ObjectBytes.E_ok : EnvOk Tryz.prog spec_ObjectBytes.E := ⟨⟨spec_ObjOk.sound, callable_of (by kernel_rfl)⟩, ⟨spec_WordBytes.sound, callable_of (by kernel_rfl)⟩, ⟨spec_RunOf.sound, callable_of (by kernel_rfl)⟩, ⟨spec_l1Zeros.sound, callable_of (by kernel_rfl)⟩, trivial⟩
theorem spec_ObjectBytes.sound : Sound Tryz.prog 88 spec_ObjectBytes.s := by
  refine func_sound (f := spec_ObjectBytes.a) (G := spec_ObjectBytes.G) (fn := Tryz.f88) (body := bodyOf Tryz.prog 88) 1000 (by kernel_rfl) spec_ObjectBytes.E_ok Tryz.func88 (by kernel_rfl) (by kernel_rfl) (by kernel_rfl) (ptsOk_of (by kernel_rfl)) ?_ ?_ ?_ ?_
  · intro r H x h
    unfold spec_ObjectBytes.a at h
    simp only at h
    split at h
    · cases h; rfl
    · cases h
  · exact fun q avs H => pick1_none spec_ObjectBytes.G16_0 (rfl)
  · intro k q pt avs H x _ h
    rcases pick1_some h with ⟨rfl, h⟩ | h
    · exact spec_ObjectBytes.G16_s _ h
    cases h
  · intro k avs H o h
    try dsimp only at h
    split at h
    · cases h; exact spec_ObjectBytes.eq _ _ _ _
    · cases h

def spec_l2With.a : FnA (ByteArray) := ⟨19, [.tmp 6], .val, [], [], fun x H => match x, H with
  | .v (.string r), [] => some r
  | _, _ => none⟩
def spec_l2With.s : Spec := mkS [.val, .val, .val] (fun k avs H => match avs, H with
  | [.v (.string a0), .v (.int .i64 a1), .v (.string a2)], [] => some (spec_l2With.f a0 a1 a2)
  | _, _ => none) (fun r => (.v (.string r), []))
def spec_l2With.E : Env := []
def spec_l2With.G (k p : Nat) (avs : List AV) (H : List HE) : Option (ByteArray) := none
set_option maxRecDepth 100000 in
theorem spec_l2With.eq (k : Nat) (a0 : ByteArray) (a1 : Int) (a2 : ByteArray) : fromTop Tryz.prog spec_l2With.E k spec_l2With.a (spec_l2With.G k) 1000 (bodyOf Tryz.prog 87) [.v (.string a0), .v (.int .i64 a1), .v (.string a2)] [] = spec_l2With.f a0 a1 a2 := by kernel_rfl
theorem spec_l2With.E_ok : EnvOk Tryz.prog spec_l2With.E := trivial
theorem spec_l2With.sound : Sound Tryz.prog 87 spec_l2With.s := by
  refine func_sound (f := spec_l2With.a) (G := spec_l2With.G) (fn := Tryz.f87) (body := bodyOf Tryz.prog 87) 1000 (by kernel_rfl) spec_l2With.E_ok Tryz.func87 (by kernel_rfl) (by kernel_rfl) (by kernel_rfl) (ptsOk_of (by kernel_rfl)) ?_ ?_ ?_ ?_
  · intro r H x h
    unfold spec_l2With.a at h
    simp only at h
    split at h
    · cases h; rfl
    · cases h
  · intro q avs H; rfl
  · intro k q pt avs H x _ h; cases h
  · intro k avs H o h
    try dsimp only at h
    split at h
    · cases h; exact spec_l2With.eq _ _ _ _
    · cases h

def spec_ReadWord.a : FnA (Int × Bool) := ⟨22, [.tmp 2, .tmp 3], .tup [.val, .bool], [], [⟨16, [0, 4, 5], [.val, .val, .val], []⟩], fun x H => match x, H with
  | .tup [.v (.int .i64 r_0), .bs false r_1], [] => some (r_0, r_1)
  | _, _ => none⟩
def spec_ReadWord.s : Spec := mkS [.val] (fun k avs H => match avs, H with
  | [.v (.string a0)], [] => some (spec_ReadWord.f k a0)
  | _, _ => none) (fun r => (.tup [.v (.int .i64 r.1), .bs false r.2], []))
def spec_ReadWord.E : Env := []
def spec_ReadWord.G16 (k : Nat) (avs : List AV) (H : List HE) : Option (Int × Bool) := match avs, H with
  | [.v (.string x0), .v (.int .u64 x4), .v (.int .i64 x5)], [] => spec_ReadWord.p16 k x0 x4 x5
  | _, _ => none
def spec_ReadWord.G (k p : Nat) (avs : List AV) (H : List HE) : Option (Int × Bool) := (pick1 16 (spec_ReadWord.G16 k avs H) none p)
set_option maxRecDepth 100000 in
theorem spec_ReadWord.eq (k : Nat) (a0 : ByteArray) : fromTop Tryz.prog spec_ReadWord.E k spec_ReadWord.a (spec_ReadWord.G k) 1000 (bodyOf Tryz.prog 119) [.v (.string a0)] [] = spec_ReadWord.f k a0 := by kernel_rfl
set_option maxRecDepth 100000 in
theorem spec_ReadWord.eq16 (k : Nat) (x0 : ByteArray) (x4 : Int) (x5 : Int) : fromPt Tryz.prog spec_ReadWord.E k spec_ReadWord.a (spec_ReadWord.G k) 1000 (bodyOf Tryz.prog 119) 16 [.v (.string x0), .v (.int .u64 x4), .v (.int .i64 x5)] [] = spec_ReadWord.p16 (k + 1) x0 x4 x5 := by kernel_rfl
theorem spec_ReadWord.G16_0 {avs : List AV} {H : List HE} : spec_ReadWord.G16 0 avs H = none := by unfold spec_ReadWord.G16; split <;> rfl
theorem spec_ReadWord.G16_s (k : Nat) {avs : List AV} {H : List HE} {x : Int × Bool} (h : spec_ReadWord.G16 (k + 1) avs H = some x) : fromPt Tryz.prog spec_ReadWord.E k spec_ReadWord.a (spec_ReadWord.G k) 1000 (bodyOf Tryz.prog 119) 16 avs H = some x := by
  unfold spec_ReadWord.G16 at h
  split at h
  · rw [← h]; exact spec_ReadWord.eq16 _ _ _ _
  · cases h
theorem spec_ReadWord.E_ok : EnvOk Tryz.prog spec_ReadWord.E := trivial
theorem spec_ReadWord.sound : Sound Tryz.prog 119 spec_ReadWord.s := by
  refine func_sound (f := spec_ReadWord.a) (G := spec_ReadWord.G) (fn := Tryz.f119) (body := bodyOf Tryz.prog 119) 1000 (by kernel_rfl) spec_ReadWord.E_ok Tryz.func119 (by kernel_rfl) (by kernel_rfl) (by kernel_rfl) (ptsOk_of (by kernel_rfl)) ?_ ?_ ?_ ?_
  · intro r H x h
    unfold spec_ReadWord.a at h
    simp only at h
    split at h
    · cases h; rfl
    · cases h
  · exact fun q avs H => pick1_none spec_ReadWord.G16_0 (rfl)
  · intro k q pt avs H x _ h
    rcases pick1_some h with ⟨rfl, h⟩ | h
    · exact spec_ReadWord.G16_s _ h
    cases h
  · intro k avs H o h
    try dsimp only at h
    split at h
    · cases h; exact spec_ReadWord.eq _ _
    · cases h

def spec_l9Word.a : FnA (Int) := ⟨19, [.tmp 4], .val, [], [], fun x H => match x, H with
  | .v (.int .i64 r), [] => some r
  | _, _ => none⟩
def spec_l9Word.s : Spec := mkS [.val, .val] (fun k avs H => match avs, H with
  | [.v (.string a0), .v (.int .i64 a1)], [] => some (spec_l9Word.f k a0 a1)
  | _, _ => none) (fun r => (.v (.int .i64 r), []))
def spec_l9Word.E : Env := [((119, []), spec_ReadWord.s)]
def spec_l9Word.G (k p : Nat) (avs : List AV) (H : List HE) : Option (Int) := none
set_option maxRecDepth 100000 in
theorem spec_l9Word.eq (k : Nat) (a0 : ByteArray) (a1 : Int) : fromTop Tryz.prog spec_l9Word.E k spec_l9Word.a (spec_l9Word.G k) 1000 (bodyOf Tryz.prog 91) [.v (.string a0), .v (.int .i64 a1)] [] = spec_l9Word.f k a0 a1 := by kernel_rfl
theorem spec_l9Word.E_ok : EnvOk Tryz.prog spec_l9Word.E := ⟨⟨spec_ReadWord.sound, callable_of (by kernel_rfl)⟩, trivial⟩
theorem spec_l9Word.sound : Sound Tryz.prog 91 spec_l9Word.s := by
  refine func_sound (f := spec_l9Word.a) (G := spec_l9Word.G) (fn := Tryz.f91) (body := bodyOf Tryz.prog 91) 1000 (by kernel_rfl) spec_l9Word.E_ok Tryz.func91 (by kernel_rfl) (by kernel_rfl) (by kernel_rfl) (ptsOk_of (by kernel_rfl)) ?_ ?_ ?_ ?_
  · intro r H x h
    unfold spec_l9Word.a at h
    simp only at h
    split at h
    · cases h; rfl
    · cases h
  · intro q avs H; rfl
  · intro k q pt avs H x _ h; cases h
  · intro k avs H o h
    try dsimp only at h
    split at h
    · cases h; exact spec_l9Word.eq _ _ _
    · cases h

def spec_l10Slots.a : FnA (List Int) := ⟨18, [.tmp 2], .row 2 (.int .i64), [], [⟨8, [0, 3, 4], [.val, .row 2 (.int .i64), .val], []⟩], fun x H => match x, H with
  | .own 0, [.row 2 (.int .i64) r] => some r
  | _, _ => none⟩
def spec_l10Slots.s : Spec := mkS [.val] (fun k avs H => match avs, H with
  | [.v (.string a0)], [] => some (spec_l10Slots.f k a0)
  | _, _ => none) (fun r => (.own 0, [.row 2 (.int .i64) r]))
def spec_l10Slots.E : Env := [((91, []), spec_l9Word.s)]
def spec_l10Slots.G8 (k : Nat) (avs : List AV) (H : List HE) : Option (List Int) := match avs, H with
  | [.v (.string x0), .own 0, .v (.int .i64 x4)], [.row 2 (.int .i64) x3] => spec_l10Slots.p8 k x0 x3 x4
  | _, _ => none
def spec_l10Slots.G (k p : Nat) (avs : List AV) (H : List HE) : Option (List Int) := (pick1 8 (spec_l10Slots.G8 k avs H) none p)
set_option maxRecDepth 100000 in
theorem spec_l10Slots.eq (k : Nat) (a0 : ByteArray) : fromTop Tryz.prog spec_l10Slots.E k spec_l10Slots.a (spec_l10Slots.G k) 1000 (bodyOf Tryz.prog 51) [.v (.string a0)] [] = spec_l10Slots.f k a0 := by kernel_rfl
set_option maxRecDepth 100000 in
theorem spec_l10Slots.eq8 (k : Nat) (x0 : ByteArray) (x3 : List Int) (x4 : Int) : fromPt Tryz.prog spec_l10Slots.E k spec_l10Slots.a (spec_l10Slots.G k) 1000 (bodyOf Tryz.prog 51) 8 [.v (.string x0), .own 0, .v (.int .i64 x4)] [.row 2 (.int .i64) x3] = spec_l10Slots.p8 (k + 1) x0 x3 x4 := by kernel_rfl
theorem spec_l10Slots.G8_0 {avs : List AV} {H : List HE} : spec_l10Slots.G8 0 avs H = none := by unfold spec_l10Slots.G8; split <;> rfl
theorem spec_l10Slots.G8_s (k : Nat) {avs : List AV} {H : List HE} {x : List Int} (h : spec_l10Slots.G8 (k + 1) avs H = some x) : fromPt Tryz.prog spec_l10Slots.E k spec_l10Slots.a (spec_l10Slots.G k) 1000 (bodyOf Tryz.prog 51) 8 avs H = some x := by
  unfold spec_l10Slots.G8 at h
  split at h
  · rw [← h]; exact spec_l10Slots.eq8 _ _ _ _
  · cases h
theorem spec_l10Slots.E_ok : EnvOk Tryz.prog spec_l10Slots.E := ⟨⟨spec_l9Word.sound, callable_of (by kernel_rfl)⟩, trivial⟩
theorem spec_l10Slots.sound : Sound Tryz.prog 51 spec_l10Slots.s := by
  refine func_sound (f := spec_l10Slots.a) (G := spec_l10Slots.G) (fn := Tryz.f51) (body := bodyOf Tryz.prog 51) 1000 (by kernel_rfl) spec_l10Slots.E_ok Tryz.func51 (by kernel_rfl) (by kernel_rfl) (by kernel_rfl) (ptsOk_of (by kernel_rfl)) ?_ ?_ ?_ ?_
  · intro r H x h
    unfold spec_l10Slots.a at h
    simp only at h
    split at h
    · cases h; rfl
    · cases h
  · exact fun q avs H => pick1_none spec_l10Slots.G8_0 (rfl)
  · intro k q pt avs H x _ h
    rcases pick1_some h with ⟨rfl, h⟩ | h
    · exact spec_l10Slots.G8_s _ h
    cases h
  · intro k avs H o h
    try dsimp only at h
    split at h
    · cases h; exact spec_l10Slots.eq _ _
    · cases h

def spec_l7Place.a : FnA (Int) := ⟨19, [.tmp 4], .val, [], [⟨6, [0, 1, 5], [.con (.int .i64), .val, .val], []⟩], fun x H => match x, H with
  | .v (.int .i64 r), [] => some r
  | _, _ => none⟩
def spec_l7Place.s : Spec := mkS [.con (.int .i64), .val] (fun k avs H => match avs, H with
  | [.con (.int .i64) a0, .v (.int .i64 a1)], [] => some (spec_l7Place.f k a0 a1)
  | _, _ => none) (fun r => (.v (.int .i64 r), []))
def spec_l7Place.E : Env := []
def spec_l7Place.G6 (k : Nat) (avs : List AV) (H : List HE) : Option (Int) := match avs, H with
  | [.con (.int .i64) x0, .v (.int .i64 x1), .v (.int .i64 x5)], [] => spec_l7Place.p6 k x0 x1 x5
  | _, _ => none
def spec_l7Place.G (k p : Nat) (avs : List AV) (H : List HE) : Option (Int) := (pick1 6 (spec_l7Place.G6 k avs H) none p)
set_option maxRecDepth 100000 in
theorem spec_l7Place.eq (k : Nat) (a0 : List Int) (a1 : Int) : fromTop Tryz.prog spec_l7Place.E k spec_l7Place.a (spec_l7Place.G k) 1000 (bodyOf Tryz.prog 74) [.con (.int .i64) a0, .v (.int .i64 a1)] [] = spec_l7Place.f k a0 a1 := by kernel_rfl
set_option maxRecDepth 100000 in
theorem spec_l7Place.eq6 (k : Nat) (x0 : List Int) (x1 : Int) (x5 : Int) : fromPt Tryz.prog spec_l7Place.E k spec_l7Place.a (spec_l7Place.G k) 1000 (bodyOf Tryz.prog 74) 6 [.con (.int .i64) x0, .v (.int .i64 x1), .v (.int .i64 x5)] [] = spec_l7Place.p6 (k + 1) x0 x1 x5 := by kernel_rfl
theorem spec_l7Place.G6_0 {avs : List AV} {H : List HE} : spec_l7Place.G6 0 avs H = none := by unfold spec_l7Place.G6; split <;> rfl
theorem spec_l7Place.G6_s (k : Nat) {avs : List AV} {H : List HE} {x : Int} (h : spec_l7Place.G6 (k + 1) avs H = some x) : fromPt Tryz.prog spec_l7Place.E k spec_l7Place.a (spec_l7Place.G k) 1000 (bodyOf Tryz.prog 74) 6 avs H = some x := by
  unfold spec_l7Place.G6 at h
  split at h
  · rw [← h]; exact spec_l7Place.eq6 _ _ _ _
  · cases h
theorem spec_l7Place.E_ok : EnvOk Tryz.prog spec_l7Place.E := trivial
theorem spec_l7Place.sound : Sound Tryz.prog 74 spec_l7Place.s := by
  refine func_sound (f := spec_l7Place.a) (G := spec_l7Place.G) (fn := Tryz.f74) (body := bodyOf Tryz.prog 74) 1000 (by kernel_rfl) spec_l7Place.E_ok Tryz.func74 (by kernel_rfl) (by kernel_rfl) (by kernel_rfl) (ptsOk_of (by kernel_rfl)) ?_ ?_ ?_ ?_
  · intro r H x h
    unfold spec_l7Place.a at h
    simp only at h
    split at h
    · cases h; rfl
    · cases h
  · exact fun q avs H => pick1_none spec_l7Place.G6_0 (rfl)
  · intro k q pt avs H x _ h
    rcases pick1_some h with ⟨rfl, h⟩ | h
    · exact spec_l7Place.G6_s _ h
    cases h
  · intro k avs H o h
    try dsimp only at h
    split at h
    · cases h; exact spec_l7Place.eq _ _ _
    · cases h

def spec_ReadObject.a : FnA (Int × List Int × Bool) := ⟨83, [.cell 4 53, .tmp 5], .tup [.agg [.val, .row 2 (.int .i64)], .bool], [], [⟨5, [0, 1, 4, 19], [.con .str, .val, .box [.val, .val], .bool], []⟩, ⟨26, [0, 1, 4, 6, 8, 9], [.con .str, .val, .box [.val, .val], .val, .box [.val, .row 2 (.int .i64)], .val], []⟩], fun x H => match x, H with
  | .tup [.agg [.v (.int .i64 r_0_0), .own 0], .bs false r_1], [.row 2 (.int .i64) r_0_1] => some (r_0_0, r_0_1, r_1)
  | _, _ => none⟩
def spec_ReadObject.s : Spec := mkS [.con .str, .val] (fun k avs H => match avs, H with
  | [.con .str a0, .v (.string a1)], [] => some (spec_ReadObject.f k a0 a1)
  | _, _ => none) (fun r => (.tup [.agg [.v (.int .i64 r.1), .own 0], .bs false r.2.2], [.row 2 (.int .i64) r.2.1]))
def spec_ReadObject.E : Env := [((109, []), spec_TypesOk.s), ((119, []), spec_ReadWord.s), ((88, []), spec_ObjectBytes.s), ((108, []), spec_l1In.s), ((65, []), spec_RunOf.s)]
def spec_ReadObject.G5 (k : Nat) (avs : List AV) (H : List HE) : Option (Int × List Int × Bool) := match avs, H with
  | [.con .str x0, .v (.string x1), .box 0 0, .bs false x19], [.box [.v (.int .i64 x4_0), .v (.slice none 0 0)]] => spec_ReadObject.p5 k x0 x1 x4_0 x19
  | _, _ => none
def spec_ReadObject.G26 (k : Nat) (avs : List AV) (H : List HE) : Option (Int × List Int × Bool) := match avs, H with
  | [.con .str x0, .v (.string x1), .box 0 0, .v (.int .i64 x6), .box 1 0, .v (.int .i64 x9)], [.box [.v (.int .i64 x4_0), .v (.slice none 0 0)], .box [.v (.int .i64 x8_0), .own 2], .row 2 (.int .i64) x8_1] => spec_ReadObject.p26 k x0 x1 x4_0 x6 x8_0 x8_1 x9
  | _, _ => none
def spec_ReadObject.G (k p : Nat) (avs : List AV) (H : List HE) : Option (Int × List Int × Bool) := (pick1 5 (spec_ReadObject.G5 k avs H) (pick1 26 (spec_ReadObject.G26 k avs H) none p) p)
set_option maxRecDepth 100000 in
theorem spec_ReadObject.eq (k : Nat) (a0 : List ByteArray) (a1 : ByteArray) : fromTop Tryz.prog spec_ReadObject.E k spec_ReadObject.a (spec_ReadObject.G k) 1000 (bodyOf Tryz.prog 137) [.con .str a0, .v (.string a1)] [] = spec_ReadObject.f k a0 a1 := by kernel_rfl
set_option maxRecDepth 100000 in
theorem spec_ReadObject.eq5 (k : Nat) (x0 : List ByteArray) (x1 : ByteArray) (x4_0 : Int) (x19 : Bool) : fromPt Tryz.prog spec_ReadObject.E k spec_ReadObject.a (spec_ReadObject.G k) 1000 (bodyOf Tryz.prog 137) 5 [.con .str x0, .v (.string x1), .box 0 0, .bs false x19] [.box [.v (.int .i64 x4_0), .v (.slice none 0 0)]] = spec_ReadObject.p5 (k + 1) x0 x1 x4_0 x19 := by kernel_rfl
theorem spec_ReadObject.G5_0 {avs : List AV} {H : List HE} : spec_ReadObject.G5 0 avs H = none := by unfold spec_ReadObject.G5; split <;> rfl
theorem spec_ReadObject.G5_s (k : Nat) {avs : List AV} {H : List HE} {x : Int × List Int × Bool} (h : spec_ReadObject.G5 (k + 1) avs H = some x) : fromPt Tryz.prog spec_ReadObject.E k spec_ReadObject.a (spec_ReadObject.G k) 1000 (bodyOf Tryz.prog 137) 5 avs H = some x := by
  unfold spec_ReadObject.G5 at h
  split at h
  · rw [← h]; exact spec_ReadObject.eq5 _ _ _ _ _
  · cases h
set_option maxRecDepth 100000 in
theorem spec_ReadObject.eq26 (k : Nat) (x0 : List ByteArray) (x1 : ByteArray) (x4_0 : Int) (x6 : Int) (x8_0 : Int) (x8_1 : List Int) (x9 : Int) : fromPt Tryz.prog spec_ReadObject.E k spec_ReadObject.a (spec_ReadObject.G k) 1000 (bodyOf Tryz.prog 137) 26 [.con .str x0, .v (.string x1), .box 0 0, .v (.int .i64 x6), .box 1 0, .v (.int .i64 x9)] [.box [.v (.int .i64 x4_0), .v (.slice none 0 0)], .box [.v (.int .i64 x8_0), .own 2], .row 2 (.int .i64) x8_1] = spec_ReadObject.p26 (k + 1) x0 x1 x4_0 x6 x8_0 x8_1 x9 := by kernel_rfl
theorem spec_ReadObject.G26_0 {avs : List AV} {H : List HE} : spec_ReadObject.G26 0 avs H = none := by unfold spec_ReadObject.G26; split <;> rfl
theorem spec_ReadObject.G26_s (k : Nat) {avs : List AV} {H : List HE} {x : Int × List Int × Bool} (h : spec_ReadObject.G26 (k + 1) avs H = some x) : fromPt Tryz.prog spec_ReadObject.E k spec_ReadObject.a (spec_ReadObject.G k) 1000 (bodyOf Tryz.prog 137) 26 avs H = some x := by
  unfold spec_ReadObject.G26 at h
  split at h
  · rw [← h]; exact spec_ReadObject.eq26 _ _ _ _ _ _ _ _
  · cases h
theorem spec_ReadObject.E_ok : EnvOk Tryz.prog spec_ReadObject.E := ⟨⟨spec_TypesOk.sound, callable_of (by kernel_rfl)⟩, ⟨spec_ReadWord.sound, callable_of (by kernel_rfl)⟩, ⟨spec_ObjectBytes.sound, callable_of (by kernel_rfl)⟩, ⟨spec_l1In.sound, callable_of (by kernel_rfl)⟩, ⟨spec_RunOf.sound, callable_of (by kernel_rfl)⟩, trivial⟩
theorem spec_ReadObject.sound : Sound Tryz.prog 137 spec_ReadObject.s := by
  refine func_sound (f := spec_ReadObject.a) (G := spec_ReadObject.G) (fn := Tryz.f137) (body := bodyOf Tryz.prog 137) 1000 (by kernel_rfl) spec_ReadObject.E_ok Tryz.func137 (by kernel_rfl) (by kernel_rfl) (by kernel_rfl) (ptsOk_of (by kernel_rfl)) ?_ ?_ ?_ ?_
  · intro r H x h
    unfold spec_ReadObject.a at h
    simp only at h
    split at h
    · cases h; rfl
    · cases h
  · exact fun q avs H => pick1_none spec_ReadObject.G5_0 (pick1_none spec_ReadObject.G26_0 (rfl))
  · intro k q pt avs H x _ h
    rcases pick1_some h with ⟨rfl, h⟩ | h
    · exact spec_ReadObject.G5_s _ h
    rcases pick1_some h with ⟨rfl, h⟩ | h
    · exact spec_ReadObject.G26_s _ h
    cases h
  · intro k avs H o h
    try dsimp only at h
    split at h
    · cases h; exact spec_ReadObject.eq _ _ _
    · cases h

def spec_l10Obj.a : FnA (Int × List Int × Bool) := ⟨46, [.cell 6 53, .tmp 7], .tup [.agg [.val, .row 2 (.int .i64)], .bool], [], [], fun x H => match x, H with
  | .tup [.agg [.v (.int .i64 r_0_0), .own 0], .bs false r_1], [.row 2 (.int .i64) r_0_1] => some (r_0_0, r_0_1, r_1)
  | _, _ => none⟩
def spec_l10Obj.s : Spec := mkS [.agg [.val, .val, .val, .con .str], .val, .val] (fun k avs H => match avs, H with
  | [.agg [.v (.int .i64 a0_0), .v (.int .i64 a0_1), .v (.int .i64 a0_2), .con .str a0_3], .v (.string a1), .v (.int .i64 a2)], [] => some (spec_l10Obj.f k a0_0 a0_1 a0_2 a0_3 a1 a2)
  | _, _ => none) (fun r => (.tup [.agg [.v (.int .i64 r.1), .own 0], .bs false r.2.2], [.row 2 (.int .i64) r.2.1]))
def spec_l10Obj.E : Env := [((91, []), spec_l9Word.s), ((108, []), spec_l1In.s), ((65, []), spec_RunOf.s), ((137, []), spec_ReadObject.s)]
def spec_l10Obj.G (k p : Nat) (avs : List AV) (H : List HE) : Option (Int × List Int × Bool) := none
set_option maxRecDepth 100000 in
theorem spec_l10Obj.eq (k : Nat) (a0_0 : Int) (a0_1 : Int) (a0_2 : Int) (a0_3 : List ByteArray) (a1 : ByteArray) (a2 : Int) : fromTop Tryz.prog spec_l10Obj.E k spec_l10Obj.a (spec_l10Obj.G k) 1000 (bodyOf Tryz.prog 112) [.agg [.v (.int .i64 a0_0), .v (.int .i64 a0_1), .v (.int .i64 a0_2), .con .str a0_3], .v (.string a1), .v (.int .i64 a2)] [] = spec_l10Obj.f k a0_0 a0_1 a0_2 a0_3 a1 a2 := by kernel_rfl
theorem spec_l10Obj.E_ok : EnvOk Tryz.prog spec_l10Obj.E := ⟨⟨spec_l9Word.sound, callable_of (by kernel_rfl)⟩, ⟨spec_l1In.sound, callable_of (by kernel_rfl)⟩, ⟨spec_RunOf.sound, callable_of (by kernel_rfl)⟩, ⟨spec_ReadObject.sound, callable_of (by kernel_rfl)⟩, trivial⟩
theorem spec_l10Obj.sound : Sound Tryz.prog 112 spec_l10Obj.s := by
  refine func_sound (f := spec_l10Obj.a) (G := spec_l10Obj.G) (fn := Tryz.f112) (body := bodyOf Tryz.prog 112) 1000 (by kernel_rfl) spec_l10Obj.E_ok Tryz.func112 (by kernel_rfl) (by kernel_rfl) (by kernel_rfl) (ptsOk_of (by kernel_rfl)) ?_ ?_ ?_ ?_
  · intro r H x h
    unfold spec_l10Obj.a at h
    simp only at h
    split at h
    · cases h; rfl
    · cases h
  · intro q avs H; rfl
  · intro k q pt avs H x _ h; cases h
  · intro k avs H o h
    try dsimp only at h
    split at h
    · cases h; exact spec_l10Obj.eq _ _ _ _ _ _ _
    · cases h

def spec_l10Line.a : FnA (Bool) := ⟨13, [.tmp 4], .bool, [], [], fun x H => match x, H with
  | .bs false r, [] => some r
  | _, _ => none⟩
def spec_l10Line.s : Spec := mkS [.agg [.val, .val, .val, .con .str], .val] (fun k avs H => match avs, H with
  | [.agg [.v (.int .i64 a0_0), .v (.int .i64 a0_1), .v (.int .i64 a0_2), .con .str a0_3], .v (.int .i64 a1)], [] => some (spec_l10Line.f a0_0 a0_1 a0_2 a0_3 a1)
  | _, _ => none) (fun r => (.bs false r, []))
def spec_l10Line.E : Env := [((108, []), spec_l1In.s)]
def spec_l10Line.G (k p : Nat) (avs : List AV) (H : List HE) : Option (Bool) := none
set_option maxRecDepth 100000 in
theorem spec_l10Line.eq (k : Nat) (a0_0 : Int) (a0_1 : Int) (a0_2 : Int) (a0_3 : List ByteArray) (a1 : Int) : fromTop Tryz.prog spec_l10Line.E k spec_l10Line.a (spec_l10Line.G k) 1000 (bodyOf Tryz.prog 111) [.agg [.v (.int .i64 a0_0), .v (.int .i64 a0_1), .v (.int .i64 a0_2), .con .str a0_3], .v (.int .i64 a1)] [] = spec_l10Line.f a0_0 a0_1 a0_2 a0_3 a1 := by kernel_rfl
theorem spec_l10Line.E_ok : EnvOk Tryz.prog spec_l10Line.E := ⟨⟨spec_l1In.sound, callable_of (by kernel_rfl)⟩, trivial⟩
theorem spec_l10Line.sound : Sound Tryz.prog 111 spec_l10Line.s := by
  refine func_sound (f := spec_l10Line.a) (G := spec_l10Line.G) (fn := Tryz.f111) (body := bodyOf Tryz.prog 111) 1000 (by kernel_rfl) spec_l10Line.E_ok Tryz.func111 (by kernel_rfl) (by kernel_rfl) (by kernel_rfl) (ptsOk_of (by kernel_rfl)) ?_ ?_ ?_ ?_
  · intro r H x h
    unfold spec_l10Line.a at h
    simp only at h
    split at h
    · cases h; rfl
    · cases h
  · intro q avs H; rfl
  · intro k q pt avs H x _ h; cases h
  · intro k avs H o h
    try dsimp only at h
    split at h
    · cases h; exact spec_l10Line.eq _ _ _ _ _ _
    · cases h

def spec_l10Ref.a : FnA (Bool) := ⟨18, [.tmp 4], .bool, [], [], fun x H => match x, H with
  | .bs false r, [] => some r
  | _, _ => none⟩
def spec_l10Ref.s : Spec := mkS [.agg [.val, .val, .val, .con .str], .val] (fun k avs H => match avs, H with
  | [.agg [.v (.int .i64 a0_0), .v (.int .i64 a0_1), .v (.int .i64 a0_2), .con .str a0_3], .v (.int .i64 a1)], [] => some (spec_l10Ref.f a0_0 a0_1 a0_2 a0_3 a1)
  | _, _ => none) (fun r => (.bs false r, []))
def spec_l10Ref.E : Env := [((110, []), spec_RefKind.s), ((111, []), spec_l10Line.s)]
def spec_l10Ref.G (k p : Nat) (avs : List AV) (H : List HE) : Option (Bool) := none
set_option maxRecDepth 100000 in
theorem spec_l10Ref.eq (k : Nat) (a0_0 : Int) (a0_1 : Int) (a0_2 : Int) (a0_3 : List ByteArray) (a1 : Int) : fromTop Tryz.prog spec_l10Ref.E k spec_l10Ref.a (spec_l10Ref.G k) 1000 (bodyOf Tryz.prog 73) [.agg [.v (.int .i64 a0_0), .v (.int .i64 a0_1), .v (.int .i64 a0_2), .con .str a0_3], .v (.int .i64 a1)] [] = spec_l10Ref.f a0_0 a0_1 a0_2 a0_3 a1 := by kernel_rfl
theorem spec_l10Ref.E_ok : EnvOk Tryz.prog spec_l10Ref.E := ⟨⟨spec_RefKind.sound, callable_of (by kernel_rfl)⟩, ⟨spec_l10Line.sound, callable_of (by kernel_rfl)⟩, trivial⟩
theorem spec_l10Ref.sound : Sound Tryz.prog 73 spec_l10Ref.s := by
  refine func_sound (f := spec_l10Ref.a) (G := spec_l10Ref.G) (fn := Tryz.f73) (body := bodyOf Tryz.prog 73) 1000 (by kernel_rfl) spec_l10Ref.E_ok Tryz.func73 (by kernel_rfl) (by kernel_rfl) (by kernel_rfl) (ptsOk_of (by kernel_rfl)) ?_ ?_ ?_ ?_
  · intro r H x h
    unfold spec_l10Ref.a at h
    simp only at h
    split at h
    · cases h; rfl
    · cases h
  · intro q avs H; rfl
  · intro k q pt avs H x _ h; cases h
  · intro k avs H o h
    try dsimp only at h
    split at h
    · cases h; exact spec_l10Ref.eq _ _ _ _ _ _
    · cases h

def spec_l10Old.a : FnA (Int × List Int × Bool) := ⟨49, [.cell 6 53, .tmp 7], .tup [.agg [.val, .row 2 (.int .i64)], .bool], [], [⟨16, [3, 6, 8, 10], [.box [.val, .val, .val, .con .str], .box [.val, .val], .box [.val, .row 2 (.int .i64)], .val], []⟩], fun x H => match x, H with
  | .tup [.agg [.v (.int .i64 r_0_0), .own 0], .bs false r_1], [.row 2 (.int .i64) r_0_1] => some (r_0_0, r_0_1, r_1)
  | _, _ => none⟩
def spec_l10Old.s : Spec := mkS [.agg [.val, .val, .val, .con .str], .val, .val] (fun k avs H => match avs, H with
  | [.agg [.v (.int .i64 a0_0), .v (.int .i64 a0_1), .v (.int .i64 a0_2), .con .str a0_3], .v (.string a1), .v (.int .i64 a2)], [] => some (spec_l10Old.f k a0_0 a0_1 a0_2 a0_3 a1 a2)
  | _, _ => none) (fun r => (.tup [.agg [.v (.int .i64 r.1), .own 0], .bs false r.2.2], [.row 2 (.int .i64) r.2.1]))
def spec_l10Old.E : Env := [((112, []), spec_l10Obj.s), ((73, []), spec_l10Ref.s)]
def spec_l10Old.G16 (k : Nat) (avs : List AV) (H : List HE) : Option (Int × List Int × Bool) := match avs, H with
  | [.box 0 0, .box 1 0, .box 2 0, .v (.int .i64 x10)], [.box [.v (.int .i64 x3_0), .v (.int .i64 x3_1), .v (.int .i64 x3_2), .con .str x3_3], .box [.v (.int .i64 x6_0), .v (.slice none 0 0)], .box [.v (.int .i64 x8_0), .own 3], .row 2 (.int .i64) x8_1] => spec_l10Old.p16 k x3_0 x3_1 x3_2 x3_3 x6_0 x8_0 x8_1 x10
  | _, _ => none
def spec_l10Old.G (k p : Nat) (avs : List AV) (H : List HE) : Option (Int × List Int × Bool) := (pick1 16 (spec_l10Old.G16 k avs H) none p)
set_option maxRecDepth 100000 in
theorem spec_l10Old.eq (k : Nat) (a0_0 : Int) (a0_1 : Int) (a0_2 : Int) (a0_3 : List ByteArray) (a1 : ByteArray) (a2 : Int) : fromTop Tryz.prog spec_l10Old.E k spec_l10Old.a (spec_l10Old.G k) 1000 (bodyOf Tryz.prog 75) [.agg [.v (.int .i64 a0_0), .v (.int .i64 a0_1), .v (.int .i64 a0_2), .con .str a0_3], .v (.string a1), .v (.int .i64 a2)] [] = spec_l10Old.f k a0_0 a0_1 a0_2 a0_3 a1 a2 := by kernel_rfl
set_option maxRecDepth 100000 in
theorem spec_l10Old.eq16 (k : Nat) (x3_0 : Int) (x3_1 : Int) (x3_2 : Int) (x3_3 : List ByteArray) (x6_0 : Int) (x8_0 : Int) (x8_1 : List Int) (x10 : Int) : fromPt Tryz.prog spec_l10Old.E k spec_l10Old.a (spec_l10Old.G k) 1000 (bodyOf Tryz.prog 75) 16 [.box 0 0, .box 1 0, .box 2 0, .v (.int .i64 x10)] [.box [.v (.int .i64 x3_0), .v (.int .i64 x3_1), .v (.int .i64 x3_2), .con .str x3_3], .box [.v (.int .i64 x6_0), .v (.slice none 0 0)], .box [.v (.int .i64 x8_0), .own 3], .row 2 (.int .i64) x8_1] = spec_l10Old.p16 (k + 1) x3_0 x3_1 x3_2 x3_3 x6_0 x8_0 x8_1 x10 := by kernel_rfl
theorem spec_l10Old.G16_0 {avs : List AV} {H : List HE} : spec_l10Old.G16 0 avs H = none := by unfold spec_l10Old.G16; split <;> rfl
theorem spec_l10Old.G16_s (k : Nat) {avs : List AV} {H : List HE} {x : Int × List Int × Bool} (h : spec_l10Old.G16 (k + 1) avs H = some x) : fromPt Tryz.prog spec_l10Old.E k spec_l10Old.a (spec_l10Old.G k) 1000 (bodyOf Tryz.prog 75) 16 avs H = some x := by
  unfold spec_l10Old.G16 at h
  split at h
  · rw [← h]; exact spec_l10Old.eq16 _ _ _ _ _ _ _ _ _
  · cases h
theorem spec_l10Old.E_ok : EnvOk Tryz.prog spec_l10Old.E := ⟨⟨spec_l10Obj.sound, callable_of (by kernel_rfl)⟩, ⟨spec_l10Ref.sound, callable_of (by kernel_rfl)⟩, trivial⟩
theorem spec_l10Old.sound : Sound Tryz.prog 75 spec_l10Old.s := by
  refine func_sound (f := spec_l10Old.a) (G := spec_l10Old.G) (fn := Tryz.f75) (body := bodyOf Tryz.prog 75) 1000 (by kernel_rfl) spec_l10Old.E_ok Tryz.func75 (by kernel_rfl) (by kernel_rfl) (by kernel_rfl) (ptsOk_of (by kernel_rfl)) ?_ ?_ ?_ ?_
  · intro r H x h
    unfold spec_l10Old.a at h
    simp only at h
    split at h
    · cases h; rfl
    · cases h
  · exact fun q avs H => pick1_none spec_l10Old.G16_0 (rfl)
  · intro k q pt avs H x _ h
    rcases pick1_some h with ⟨rfl, h⟩ | h
    · exact spec_l10Old.G16_s _ h
    cases h
  · intro k avs H o h
    try dsimp only at h
    split at h
    · cases h; exact spec_l10Old.eq _ _ _ _ _ _ _
    · cases h

def spec_l10Find.a : FnA (List Int × List (Int × List Int) × Bool) := ⟨147, [.tmp 6, .tmp 7, .tmp 8], .tup [.row 2 (.int .i64), .row 53 (.pair (.int .i64) (.sl (.int .i64))), .bool], [], [⟨8, [1, 2, 3, 9, 10], [.val, .con (.int .i64), .box [.val, .val, .val, .con .str], .row 2 (.int .i64), .val], []⟩, ⟨31, [1, 3, 9, 11, 12, 13], [.val, .box [.val, .val, .val, .con .str], .row 2 (.int .i64), .row 53 (.pair (.int .i64) (.sl (.int .i64))), .row 2 (.int .i64), .val], []⟩, ⟨54, [1, 3, 9, 11, 12, 13, 14, 16], [.val, .box [.val, .val, .val, .con .str], .row 2 (.int .i64), .row 53 (.pair (.int .i64) (.sl (.int .i64))), .row 2 (.int .i64), .val, .box [.val, .row 2 (.int .i64)], .val], []⟩, ⟨77, [1, 3, 9, 11, 12, 13, 14, 17], [.val, .box [.val, .val, .val, .con .str], .row 2 (.int .i64), .row 53 (.pair (.int .i64) (.sl (.int .i64))), .row 2 (.int .i64), .val, .box [.val, .row 2 (.int .i64)], .val], []⟩, ⟨88, [1, 3, 9, 11, 12, 13, 14, 17, 131], [.val, .box [.val, .val, .val, .con .str], .row 2 (.int .i64), .row 53 (.pair (.int .i64) (.sl (.int .i64))), .row 2 (.int .i64), .val, .box [.val, .row 2 (.int .i64)], .val, .bool], []⟩], fun x H => match x, H with
  | .tup [.own 0, .own 1, .bs false r_2], [.row 2 (.int .i64) r_0, .row 53 (.pair (.int .i64) (.sl (.int .i64))) r_1] => some (r_0, r_1, r_2)
  | _, _ => none⟩
def spec_l10Find.s : Spec := mkS [.agg [.val, .val, .val, .con .str], .val, .con (.int .i64)] (fun k avs H => match avs, H with
  | [.agg [.v (.int .i64 a0_0), .v (.int .i64 a0_1), .v (.int .i64 a0_2), .con .str a0_3], .v (.string a1), .con (.int .i64) a2], [] => some (spec_l10Find.f k a0_0 a0_1 a0_2 a0_3 a1 a2)
  | _, _ => none) (fun r => (.tup [.own 0, .own 1, .bs false r.2.2], [.row 2 (.int .i64) r.1, .row 53 (.pair (.int .i64) (.sl (.int .i64))) r.2.1]))
def spec_l10Find.E : Env := [((74, []), spec_l7Place.s), ((75, []), spec_l10Old.s), ((65, []), spec_RunOf.s)]
def spec_l10Find.G8 (k : Nat) (avs : List AV) (H : List HE) : Option (List Int × List (Int × List Int) × Bool) := match avs, H with
  | [.v (.string x1), .con (.int .i64) x2, .box 0 0, .own 1, .v (.int .i64 x10)], [.box [.v (.int .i64 x3_0), .v (.int .i64 x3_1), .v (.int .i64 x3_2), .con .str x3_3], .row 2 (.int .i64) x9] => spec_l10Find.p8 k x1 x2 x3_0 x3_1 x3_2 x3_3 x9 x10
  | _, _ => none
def spec_l10Find.G31 (k : Nat) (avs : List AV) (H : List HE) : Option (List Int × List (Int × List Int) × Bool) := match avs, H with
  | [.v (.string x1), .box 0 0, .own 1, .own 2, .own 3, .v (.int .i64 x13)], [.box [.v (.int .i64 x3_0), .v (.int .i64 x3_1), .v (.int .i64 x3_2), .con .str x3_3], .row 2 (.int .i64) x9, .row 53 (.pair (.int .i64) (.sl (.int .i64))) x11, .row 2 (.int .i64) x12] => spec_l10Find.p31 k x1 x3_0 x3_1 x3_2 x3_3 x9 x11 x12 x13
  | _, _ => none
def spec_l10Find.G54 (k : Nat) (avs : List AV) (H : List HE) : Option (List Int × List (Int × List Int) × Bool) := match avs, H with
  | [.v (.string x1), .box 0 0, .own 1, .own 2, .own 3, .v (.int .i64 x13), .box 4 0, .v (.int .i64 x16)], [.box [.v (.int .i64 x3_0), .v (.int .i64 x3_1), .v (.int .i64 x3_2), .con .str x3_3], .row 2 (.int .i64) x9, .row 53 (.pair (.int .i64) (.sl (.int .i64))) x11, .row 2 (.int .i64) x12, .box [.v (.int .i64 x14_0), .own 5], .row 2 (.int .i64) x14_1] => spec_l10Find.p54 k x1 x3_0 x3_1 x3_2 x3_3 x9 x11 x12 x13 x14_0 x14_1 x16
  | _, _ => none
def spec_l10Find.G77 (k : Nat) (avs : List AV) (H : List HE) : Option (List Int × List (Int × List Int) × Bool) := match avs, H with
  | [.v (.string x1), .box 0 0, .own 1, .own 2, .own 3, .v (.int .i64 x13), .box 4 0, .v (.int .i64 x17)], [.box [.v (.int .i64 x3_0), .v (.int .i64 x3_1), .v (.int .i64 x3_2), .con .str x3_3], .row 2 (.int .i64) x9, .row 53 (.pair (.int .i64) (.sl (.int .i64))) x11, .row 2 (.int .i64) x12, .box [.v (.int .i64 x14_0), .own 5], .row 2 (.int .i64) x14_1] => spec_l10Find.p77 k x1 x3_0 x3_1 x3_2 x3_3 x9 x11 x12 x13 x14_0 x14_1 x17
  | _, _ => none
def spec_l10Find.G88 (k : Nat) (avs : List AV) (H : List HE) : Option (List Int × List (Int × List Int) × Bool) := match avs, H with
  | [.v (.string x1), .box 0 0, .own 1, .own 2, .own 3, .v (.int .i64 x13), .box 4 0, .v (.int .i64 x17), .bs false x131], [.box [.v (.int .i64 x3_0), .v (.int .i64 x3_1), .v (.int .i64 x3_2), .con .str x3_3], .row 2 (.int .i64) x9, .row 53 (.pair (.int .i64) (.sl (.int .i64))) x11, .row 2 (.int .i64) x12, .box [.v (.int .i64 x14_0), .own 5], .row 2 (.int .i64) x14_1] => spec_l10Find.p88 k x1 x3_0 x3_1 x3_2 x3_3 x9 x11 x12 x13 x14_0 x14_1 x17 x131
  | _, _ => none
def spec_l10Find.G (k p : Nat) (avs : List AV) (H : List HE) : Option (List Int × List (Int × List Int) × Bool) := (pick1 8 (spec_l10Find.G8 k avs H) (pick1 31 (spec_l10Find.G31 k avs H) (pick1 54 (spec_l10Find.G54 k avs H) (pick1 77 (spec_l10Find.G77 k avs H) (pick1 88 (spec_l10Find.G88 k avs H) none p) p) p) p) p)
set_option maxRecDepth 100000 in
theorem spec_l10Find.eq (k : Nat) (a0_0 : Int) (a0_1 : Int) (a0_2 : Int) (a0_3 : List ByteArray) (a1 : ByteArray) (a2 : List Int) : fromTop Tryz.prog spec_l10Find.E k spec_l10Find.a (spec_l10Find.G k) 1000 (bodyOf Tryz.prog 39) [.agg [.v (.int .i64 a0_0), .v (.int .i64 a0_1), .v (.int .i64 a0_2), .con .str a0_3], .v (.string a1), .con (.int .i64) a2] [] = spec_l10Find.f k a0_0 a0_1 a0_2 a0_3 a1 a2 := by kernel_rfl
set_option maxRecDepth 100000 in
theorem spec_l10Find.eq8 (k : Nat) (x1 : ByteArray) (x2 : List Int) (x3_0 : Int) (x3_1 : Int) (x3_2 : Int) (x3_3 : List ByteArray) (x9 : List Int) (x10 : Int) : fromPt Tryz.prog spec_l10Find.E k spec_l10Find.a (spec_l10Find.G k) 1000 (bodyOf Tryz.prog 39) 8 [.v (.string x1), .con (.int .i64) x2, .box 0 0, .own 1, .v (.int .i64 x10)] [.box [.v (.int .i64 x3_0), .v (.int .i64 x3_1), .v (.int .i64 x3_2), .con .str x3_3], .row 2 (.int .i64) x9] = spec_l10Find.p8 (k + 1) x1 x2 x3_0 x3_1 x3_2 x3_3 x9 x10 := by kernel_rfl
theorem spec_l10Find.G8_0 {avs : List AV} {H : List HE} : spec_l10Find.G8 0 avs H = none := by unfold spec_l10Find.G8; split <;> rfl
theorem spec_l10Find.G8_s (k : Nat) {avs : List AV} {H : List HE} {x : List Int × List (Int × List Int) × Bool} (h : spec_l10Find.G8 (k + 1) avs H = some x) : fromPt Tryz.prog spec_l10Find.E k spec_l10Find.a (spec_l10Find.G k) 1000 (bodyOf Tryz.prog 39) 8 avs H = some x := by
  unfold spec_l10Find.G8 at h
  split at h
  · rw [← h]; exact spec_l10Find.eq8 _ _ _ _ _ _ _ _ _
  · cases h
set_option maxRecDepth 100000 in
theorem spec_l10Find.eq31 (k : Nat) (x1 : ByteArray) (x3_0 : Int) (x3_1 : Int) (x3_2 : Int) (x3_3 : List ByteArray) (x9 : List Int) (x11 : List (Int × List Int)) (x12 : List Int) (x13 : Int) : fromPt Tryz.prog spec_l10Find.E k spec_l10Find.a (spec_l10Find.G k) 1000 (bodyOf Tryz.prog 39) 31 [.v (.string x1), .box 0 0, .own 1, .own 2, .own 3, .v (.int .i64 x13)] [.box [.v (.int .i64 x3_0), .v (.int .i64 x3_1), .v (.int .i64 x3_2), .con .str x3_3], .row 2 (.int .i64) x9, .row 53 (.pair (.int .i64) (.sl (.int .i64))) x11, .row 2 (.int .i64) x12] = spec_l10Find.p31 (k + 1) x1 x3_0 x3_1 x3_2 x3_3 x9 x11 x12 x13 := by kernel_rfl
theorem spec_l10Find.G31_0 {avs : List AV} {H : List HE} : spec_l10Find.G31 0 avs H = none := by unfold spec_l10Find.G31; split <;> rfl
theorem spec_l10Find.G31_s (k : Nat) {avs : List AV} {H : List HE} {x : List Int × List (Int × List Int) × Bool} (h : spec_l10Find.G31 (k + 1) avs H = some x) : fromPt Tryz.prog spec_l10Find.E k spec_l10Find.a (spec_l10Find.G k) 1000 (bodyOf Tryz.prog 39) 31 avs H = some x := by
  unfold spec_l10Find.G31 at h
  split at h
  · rw [← h]; exact spec_l10Find.eq31 _ _ _ _ _ _ _ _ _ _
  · cases h
set_option maxRecDepth 100000 in
theorem spec_l10Find.eq54 (k : Nat) (x1 : ByteArray) (x3_0 : Int) (x3_1 : Int) (x3_2 : Int) (x3_3 : List ByteArray) (x9 : List Int) (x11 : List (Int × List Int)) (x12 : List Int) (x13 : Int) (x14_0 : Int) (x14_1 : List Int) (x16 : Int) : fromPt Tryz.prog spec_l10Find.E k spec_l10Find.a (spec_l10Find.G k) 1000 (bodyOf Tryz.prog 39) 54 [.v (.string x1), .box 0 0, .own 1, .own 2, .own 3, .v (.int .i64 x13), .box 4 0, .v (.int .i64 x16)] [.box [.v (.int .i64 x3_0), .v (.int .i64 x3_1), .v (.int .i64 x3_2), .con .str x3_3], .row 2 (.int .i64) x9, .row 53 (.pair (.int .i64) (.sl (.int .i64))) x11, .row 2 (.int .i64) x12, .box [.v (.int .i64 x14_0), .own 5], .row 2 (.int .i64) x14_1] = spec_l10Find.p54 (k + 1) x1 x3_0 x3_1 x3_2 x3_3 x9 x11 x12 x13 x14_0 x14_1 x16 := by kernel_rfl
theorem spec_l10Find.G54_0 {avs : List AV} {H : List HE} : spec_l10Find.G54 0 avs H = none := by unfold spec_l10Find.G54; split <;> rfl
theorem spec_l10Find.G54_s (k : Nat) {avs : List AV} {H : List HE} {x : List Int × List (Int × List Int) × Bool} (h : spec_l10Find.G54 (k + 1) avs H = some x) : fromPt Tryz.prog spec_l10Find.E k spec_l10Find.a (spec_l10Find.G k) 1000 (bodyOf Tryz.prog 39) 54 avs H = some x := by
  unfold spec_l10Find.G54 at h
  split at h
  · rw [← h]; exact spec_l10Find.eq54 _ _ _ _ _ _ _ _ _ _ _ _ _
  · cases h
set_option maxRecDepth 100000 in
theorem spec_l10Find.eq77 (k : Nat) (x1 : ByteArray) (x3_0 : Int) (x3_1 : Int) (x3_2 : Int) (x3_3 : List ByteArray) (x9 : List Int) (x11 : List (Int × List Int)) (x12 : List Int) (x13 : Int) (x14_0 : Int) (x14_1 : List Int) (x17 : Int) : fromPt Tryz.prog spec_l10Find.E k spec_l10Find.a (spec_l10Find.G k) 1000 (bodyOf Tryz.prog 39) 77 [.v (.string x1), .box 0 0, .own 1, .own 2, .own 3, .v (.int .i64 x13), .box 4 0, .v (.int .i64 x17)] [.box [.v (.int .i64 x3_0), .v (.int .i64 x3_1), .v (.int .i64 x3_2), .con .str x3_3], .row 2 (.int .i64) x9, .row 53 (.pair (.int .i64) (.sl (.int .i64))) x11, .row 2 (.int .i64) x12, .box [.v (.int .i64 x14_0), .own 5], .row 2 (.int .i64) x14_1] = spec_l10Find.p77 (k + 1) x1 x3_0 x3_1 x3_2 x3_3 x9 x11 x12 x13 x14_0 x14_1 x17 := by kernel_rfl
theorem spec_l10Find.G77_0 {avs : List AV} {H : List HE} : spec_l10Find.G77 0 avs H = none := by unfold spec_l10Find.G77; split <;> rfl
theorem spec_l10Find.G77_s (k : Nat) {avs : List AV} {H : List HE} {x : List Int × List (Int × List Int) × Bool} (h : spec_l10Find.G77 (k + 1) avs H = some x) : fromPt Tryz.prog spec_l10Find.E k spec_l10Find.a (spec_l10Find.G k) 1000 (bodyOf Tryz.prog 39) 77 avs H = some x := by
  unfold spec_l10Find.G77 at h
  split at h
  · rw [← h]; exact spec_l10Find.eq77 _ _ _ _ _ _ _ _ _ _ _ _ _
  · cases h
set_option maxRecDepth 100000 in
theorem spec_l10Find.eq88 (k : Nat) (x1 : ByteArray) (x3_0 : Int) (x3_1 : Int) (x3_2 : Int) (x3_3 : List ByteArray) (x9 : List Int) (x11 : List (Int × List Int)) (x12 : List Int) (x13 : Int) (x14_0 : Int) (x14_1 : List Int) (x17 : Int) (x131 : Bool) : fromPt Tryz.prog spec_l10Find.E k spec_l10Find.a (spec_l10Find.G k) 1000 (bodyOf Tryz.prog 39) 88 [.v (.string x1), .box 0 0, .own 1, .own 2, .own 3, .v (.int .i64 x13), .box 4 0, .v (.int .i64 x17), .bs false x131] [.box [.v (.int .i64 x3_0), .v (.int .i64 x3_1), .v (.int .i64 x3_2), .con .str x3_3], .row 2 (.int .i64) x9, .row 53 (.pair (.int .i64) (.sl (.int .i64))) x11, .row 2 (.int .i64) x12, .box [.v (.int .i64 x14_0), .own 5], .row 2 (.int .i64) x14_1] = spec_l10Find.p88 (k + 1) x1 x3_0 x3_1 x3_2 x3_3 x9 x11 x12 x13 x14_0 x14_1 x17 x131 := by kernel_rfl
theorem spec_l10Find.G88_0 {avs : List AV} {H : List HE} : spec_l10Find.G88 0 avs H = none := by unfold spec_l10Find.G88; split <;> rfl
theorem spec_l10Find.G88_s (k : Nat) {avs : List AV} {H : List HE} {x : List Int × List (Int × List Int) × Bool} (h : spec_l10Find.G88 (k + 1) avs H = some x) : fromPt Tryz.prog spec_l10Find.E k spec_l10Find.a (spec_l10Find.G k) 1000 (bodyOf Tryz.prog 39) 88 avs H = some x := by
  unfold spec_l10Find.G88 at h
  split at h
  · rw [← h]; exact spec_l10Find.eq88 _ _ _ _ _ _ _ _ _ _ _ _ _ _
  · cases h
theorem spec_l10Find.E_ok : EnvOk Tryz.prog spec_l10Find.E := ⟨⟨spec_l7Place.sound, callable_of (by kernel_rfl)⟩, ⟨spec_l10Old.sound, callable_of (by kernel_rfl)⟩, ⟨spec_RunOf.sound, callable_of (by kernel_rfl)⟩, trivial⟩
theorem spec_l10Find.sound : Sound Tryz.prog 39 spec_l10Find.s := by
  refine func_sound (f := spec_l10Find.a) (G := spec_l10Find.G) (fn := Tryz.f39) (body := bodyOf Tryz.prog 39) 1000 (by kernel_rfl) spec_l10Find.E_ok Tryz.func39 (by kernel_rfl) (by kernel_rfl) (by kernel_rfl) (ptsOk_of (by kernel_rfl)) ?_ ?_ ?_ ?_
  · intro r H x h
    unfold spec_l10Find.a at h
    simp only at h
    split at h
    · cases h; rfl
    · cases h
  · exact fun q avs H => pick1_none spec_l10Find.G8_0 (pick1_none spec_l10Find.G31_0 (pick1_none spec_l10Find.G54_0 (pick1_none spec_l10Find.G77_0 (pick1_none spec_l10Find.G88_0 (rfl)))))
  · intro k q pt avs H x _ h
    rcases pick1_some h with ⟨rfl, h⟩ | h
    · exact spec_l10Find.G8_s _ h
    rcases pick1_some h with ⟨rfl, h⟩ | h
    · exact spec_l10Find.G31_s _ h
    rcases pick1_some h with ⟨rfl, h⟩ | h
    · exact spec_l10Find.G54_s _ h
    rcases pick1_some h with ⟨rfl, h⟩ | h
    · exact spec_l10Find.G77_s _ h
    rcases pick1_some h with ⟨rfl, h⟩ | h
    · exact spec_l10Find.G88_s _ h
    cases h
  · intro k avs H o h
    try dsimp only at h
    split at h
    · cases h; exact spec_l10Find.eq _ _ _ _ _ _ _
    · cases h

def spec_l10Map.a : FnA (ByteArray) := ⟨46, [.tmp 6], .val, [], [⟨18, [3, 7, 8, 10, 11], [.box [.val, .val, .val, .con .str], .row 2 (.int .i64), .row 53 (.pair (.int .i64) (.sl (.int .i64))), .val, .val], []⟩], fun x H => match x, H with
  | .v (.string r), [] => some r
  | _, _ => none⟩
def spec_l10Map.s : Spec := mkS [.agg [.val, .val, .val, .con .str], .val, .con (.int .i64)] (fun k avs H => match avs, H with
  | [.agg [.v (.int .i64 a0_0), .v (.int .i64 a0_1), .v (.int .i64 a0_2), .con .str a0_3], .v (.string a1), .con (.int .i64) a2], [] => some (spec_l10Map.f k a0_0 a0_1 a0_2 a0_3 a1 a2)
  | _, _ => none) (fun r => (.v (.string r), []))
def spec_l10Map.E : Env := [((39, []), spec_l10Find.s), ((63, []), spec_l1Zeros.s), ((65, []), spec_RunOf.s), ((64, []), spec_l6Turn.s)]
def spec_l10Map.G18 (k : Nat) (avs : List AV) (H : List HE) : Option (ByteArray) := match avs, H with
  | [.box 0 0, .own 1, .own 2, .v (.string x10), .v (.int .i64 x11)], [.box [.v (.int .i64 x3_0), .v (.int .i64 x3_1), .v (.int .i64 x3_2), .con .str x3_3], .row 2 (.int .i64) x7, .row 53 (.pair (.int .i64) (.sl (.int .i64))) x8] => spec_l10Map.p18 k x3_0 x3_1 x3_2 x3_3 x7 x8 x10 x11
  | _, _ => none
def spec_l10Map.G (k p : Nat) (avs : List AV) (H : List HE) : Option (ByteArray) := (pick1 18 (spec_l10Map.G18 k avs H) none p)
set_option maxRecDepth 100000 in
theorem spec_l10Map.eq (k : Nat) (a0_0 : Int) (a0_1 : Int) (a0_2 : Int) (a0_3 : List ByteArray) (a1 : ByteArray) (a2 : List Int) : fromTop Tryz.prog spec_l10Map.E k spec_l10Map.a (spec_l10Map.G k) 1000 (bodyOf Tryz.prog 33) [.agg [.v (.int .i64 a0_0), .v (.int .i64 a0_1), .v (.int .i64 a0_2), .con .str a0_3], .v (.string a1), .con (.int .i64) a2] [] = spec_l10Map.f k a0_0 a0_1 a0_2 a0_3 a1 a2 := by kernel_rfl
set_option maxRecDepth 100000 in
theorem spec_l10Map.eq18 (k : Nat) (x3_0 : Int) (x3_1 : Int) (x3_2 : Int) (x3_3 : List ByteArray) (x7 : List Int) (x8 : List (Int × List Int)) (x10 : ByteArray) (x11 : Int) : fromPt Tryz.prog spec_l10Map.E k spec_l10Map.a (spec_l10Map.G k) 1000 (bodyOf Tryz.prog 33) 18 [.box 0 0, .own 1, .own 2, .v (.string x10), .v (.int .i64 x11)] [.box [.v (.int .i64 x3_0), .v (.int .i64 x3_1), .v (.int .i64 x3_2), .con .str x3_3], .row 2 (.int .i64) x7, .row 53 (.pair (.int .i64) (.sl (.int .i64))) x8] = spec_l10Map.p18 (k + 1) x3_0 x3_1 x3_2 x3_3 x7 x8 x10 x11 := by kernel_rfl
theorem spec_l10Map.G18_0 {avs : List AV} {H : List HE} : spec_l10Map.G18 0 avs H = none := by unfold spec_l10Map.G18; split <;> rfl
theorem spec_l10Map.G18_s (k : Nat) {avs : List AV} {H : List HE} {x : ByteArray} (h : spec_l10Map.G18 (k + 1) avs H = some x) : fromPt Tryz.prog spec_l10Map.E k spec_l10Map.a (spec_l10Map.G k) 1000 (bodyOf Tryz.prog 33) 18 avs H = some x := by
  unfold spec_l10Map.G18 at h
  split at h
  · rw [← h]; exact spec_l10Map.eq18 _ _ _ _ _ _ _ _ _
  · cases h
theorem spec_l10Map.E_ok : EnvOk Tryz.prog spec_l10Map.E := ⟨⟨spec_l10Find.sound, callable_of (by kernel_rfl)⟩, ⟨spec_l1Zeros.sound, callable_of (by kernel_rfl)⟩, ⟨spec_RunOf.sound, callable_of (by kernel_rfl)⟩, ⟨spec_l6Turn.sound, callable_of (by kernel_rfl)⟩, trivial⟩
theorem spec_l10Map.sound : Sound Tryz.prog 33 spec_l10Map.s := by
  refine func_sound (f := spec_l10Map.a) (G := spec_l10Map.G) (fn := Tryz.f33) (body := bodyOf Tryz.prog 33) 1000 (by kernel_rfl) spec_l10Map.E_ok Tryz.func33 (by kernel_rfl) (by kernel_rfl) (by kernel_rfl) (ptsOk_of (by kernel_rfl)) ?_ ?_ ?_ ?_
  · intro r H x h
    unfold spec_l10Map.a at h
    simp only at h
    split at h
    · cases h; rfl
    · cases h
  · exact fun q avs H => pick1_none spec_l10Map.G18_0 (rfl)
  · intro k q pt avs H x _ h
    rcases pick1_some h with ⟨rfl, h⟩ | h
    · exact spec_l10Map.G18_s _ h
    cases h
  · intro k avs H o h
    try dsimp only at h
    split at h
    · cases h; exact spec_l10Map.eq _ _ _ _ _ _ _
    · cases h

def spec_l1Rd_hurt.a : FnA (List Int × Int × ByteArray) := ⟨50, [.tmp 4], .val, [.box [.con (.int .u8), .val]], [], fun x H => match x, H with
  | .v (.string r), [.box [.con (.int .u8) h0_0, .v (.int .i64 h0_1)]] => some (h0_0, h0_1, r)
  | _, _ => none⟩
def spec_l1Rd_hurt.s : Spec := mkS [.box [.con (.int .u8), .val], .val] (fun k avs H => match avs, H with
  | [.box 0 0, .v (.string a1)], [.box [.con (.int .u8) a0_0, .v (.int .i64 a0_1)]] => some (spec_l1Rd_hurt.f a0_0 a0_1 a1)
  | _, _ => none) (fun r => (.v (.string r.2.2), [.box [.con (.int .u8) r.1, .v (.int .i64 r.2.1)]]))
def spec_l1Rd_hurt.E : Env := [((52, []), spec_l1Rd_below.s)]
def spec_l1Rd_hurt.G (k p : Nat) (avs : List AV) (H : List HE) : Option (List Int × Int × ByteArray) := none
set_option maxRecDepth 100000 in
theorem spec_l1Rd_hurt.eq (k : Nat) (a0_0 : List Int) (a0_1 : Int) (a1 : ByteArray) : fromTop Tryz.prog spec_l1Rd_hurt.E k spec_l1Rd_hurt.a (spec_l1Rd_hurt.G k) 1000 (bodyOf Tryz.prog 90) [.box 0 0, .v (.string a1)] [.box [.con (.int .u8) a0_0, .v (.int .i64 a0_1)]] = spec_l1Rd_hurt.f a0_0 a0_1 a1 := by kernel_rfl
theorem spec_l1Rd_hurt.E_ok : EnvOk Tryz.prog spec_l1Rd_hurt.E := ⟨⟨spec_l1Rd_below.sound, callable_of (by kernel_rfl)⟩, trivial⟩
theorem spec_l1Rd_hurt.sound : Sound Tryz.prog 90 spec_l1Rd_hurt.s := by
  refine func_sound (f := spec_l1Rd_hurt.a) (G := spec_l1Rd_hurt.G) (fn := Tryz.f90) (body := bodyOf Tryz.prog 90) 1000 (by kernel_rfl) spec_l1Rd_hurt.E_ok Tryz.func90 (by kernel_rfl) (by kernel_rfl) (by kernel_rfl) (ptsOk_of (by kernel_rfl)) ?_ ?_ ?_ ?_
  · intro r H x h
    unfold spec_l1Rd_hurt.a at h
    simp only at h
    split at h
    · cases h; rfl
    · cases h
  · intro q avs H; rfl
  · intro k q pt avs H x _ h; cases h
  · intro k avs H o h
    try dsimp only at h
    split at h
    · cases h; exact spec_l1Rd_hurt.eq _ _ _ _
    · cases h

def spec_l1Rd_word.a : FnA (List Int × Int × Int) := ⟨16, [.tmp 2], .val, [.box [.con (.int .u8), .val]], [⟨8, [0, 3, 4], [.box [], .val, .val], [.box [.con (.int .u8), .val]]⟩], fun x H => match x, H with
  | .v (.int .u64 r), [.box [.con (.int .u8) h0_0, .v (.int .i64 h0_1)]] => some (h0_0, h0_1, r)
  | _, _ => none⟩
def spec_l1Rd_word.s : Spec := mkS [.box [.con (.int .u8), .val]] (fun k avs H => match avs, H with
  | [.box 0 0], [.box [.con (.int .u8) a0_0, .v (.int .i64 a0_1)]] => some (spec_l1Rd_word.f k a0_0 a0_1)
  | _, _ => none) (fun r => (.v (.int .u64 r.2.2), [.box [.con (.int .u8) r.1, .v (.int .i64 r.2.1)]]))
def spec_l1Rd_word.E : Env := [((92, []), spec_l1Rd_next.s)]
def spec_l1Rd_word.G8 (k : Nat) (avs : List AV) (H : List HE) : Option (List Int × Int × Int) := match avs, H with
  | [.box 0 0, .v (.int .u64 x3), .v (.int .i64 x4)], [.box [.con (.int .u8) h0_0, .v (.int .i64 h0_1)]] => spec_l1Rd_word.p8 k h0_0 h0_1 x3 x4
  | _, _ => none
def spec_l1Rd_word.G (k p : Nat) (avs : List AV) (H : List HE) : Option (List Int × Int × Int) := (pick1 8 (spec_l1Rd_word.G8 k avs H) none p)
set_option maxRecDepth 100000 in
theorem spec_l1Rd_word.eq (k : Nat) (a0_0 : List Int) (a0_1 : Int) : fromTop Tryz.prog spec_l1Rd_word.E k spec_l1Rd_word.a (spec_l1Rd_word.G k) 1000 (bodyOf Tryz.prog 142) [.box 0 0] [.box [.con (.int .u8) a0_0, .v (.int .i64 a0_1)]] = spec_l1Rd_word.f k a0_0 a0_1 := by kernel_rfl
set_option maxRecDepth 100000 in
theorem spec_l1Rd_word.eq8 (k : Nat) (h0_0 : List Int) (h0_1 : Int) (x3 : Int) (x4 : Int) : fromPt Tryz.prog spec_l1Rd_word.E k spec_l1Rd_word.a (spec_l1Rd_word.G k) 1000 (bodyOf Tryz.prog 142) 8 [.box 0 0, .v (.int .u64 x3), .v (.int .i64 x4)] [.box [.con (.int .u8) h0_0, .v (.int .i64 h0_1)]] = spec_l1Rd_word.p8 (k + 1) h0_0 h0_1 x3 x4 := by kernel_rfl
theorem spec_l1Rd_word.G8_0 {avs : List AV} {H : List HE} : spec_l1Rd_word.G8 0 avs H = none := by unfold spec_l1Rd_word.G8; split <;> rfl
theorem spec_l1Rd_word.G8_s (k : Nat) {avs : List AV} {H : List HE} {x : List Int × Int × Int} (h : spec_l1Rd_word.G8 (k + 1) avs H = some x) : fromPt Tryz.prog spec_l1Rd_word.E k spec_l1Rd_word.a (spec_l1Rd_word.G k) 1000 (bodyOf Tryz.prog 142) 8 avs H = some x := by
  unfold spec_l1Rd_word.G8 at h
  split at h
  · rw [← h]; exact spec_l1Rd_word.eq8 _ _ _ _ _
  · cases h
theorem spec_l1Rd_word.E_ok : EnvOk Tryz.prog spec_l1Rd_word.E := ⟨⟨spec_l1Rd_next.sound, callable_of (by kernel_rfl)⟩, trivial⟩
theorem spec_l1Rd_word.sound : Sound Tryz.prog 142 spec_l1Rd_word.s := by
  refine func_sound (f := spec_l1Rd_word.a) (G := spec_l1Rd_word.G) (fn := Tryz.f142) (body := bodyOf Tryz.prog 142) 1000 (by kernel_rfl) spec_l1Rd_word.E_ok Tryz.func142 (by kernel_rfl) (by kernel_rfl) (by kernel_rfl) (ptsOk_of (by kernel_rfl)) ?_ ?_ ?_ ?_
  · intro r H x h
    unfold spec_l1Rd_word.a at h
    simp only at h
    split at h
    · cases h; rfl
    · cases h
  · exact fun q avs H => pick1_none spec_l1Rd_word.G8_0 (rfl)
  · intro k q pt avs H x _ h
    rcases pick1_some h with ⟨rfl, h⟩ | h
    · exact spec_l1Rd_word.G8_s _ h
    cases h
  · intro k avs H o h
    try dsimp only at h
    split at h
    · cases h; exact spec_l1Rd_word.eq _ _ _
    · cases h

def spec_l1Rd_near.a : FnA (List Int × Int × Int) := ⟨31, [.tmp 6], .val, [.box [.con (.int .u8), .val]], [], fun x H => match x, H with
  | .v (.int .i64 r), [.box [.con (.int .u8) h0_0, .v (.int .i64 h0_1)]] => some (h0_0, h0_1, r)
  | _, _ => none⟩
def spec_l1Rd_near.s : Spec := mkS [.box [.con (.int .u8), .val], .val, .val] (fun k avs H => match avs, H with
  | [.box 0 0, .v (.int .i64 a1), .v (.int .i64 a2)], [.box [.con (.int .u8) a0_0, .v (.int .i64 a0_1)]] => some (spec_l1Rd_near.f k a0_0 a0_1 a1 a2)
  | _, _ => none) (fun r => (.v (.int .i64 r.2.2), [.box [.con (.int .u8) r.1, .v (.int .i64 r.2.1)]]))
def spec_l1Rd_near.E : Env := [((52, []), spec_l1Rd_below.s), ((142, []), spec_l1Rd_word.s)]
def spec_l1Rd_near.G (k p : Nat) (avs : List AV) (H : List HE) : Option (List Int × Int × Int) := none
set_option maxRecDepth 100000 in
theorem spec_l1Rd_near.eq (k : Nat) (a0_0 : List Int) (a0_1 : Int) (a1 : Int) (a2 : Int) : fromTop Tryz.prog spec_l1Rd_near.E k spec_l1Rd_near.a (spec_l1Rd_near.G k) 1000 (bodyOf Tryz.prog 120) [.box 0 0, .v (.int .i64 a1), .v (.int .i64 a2)] [.box [.con (.int .u8) a0_0, .v (.int .i64 a0_1)]] = spec_l1Rd_near.f k a0_0 a0_1 a1 a2 := by kernel_rfl
theorem spec_l1Rd_near.E_ok : EnvOk Tryz.prog spec_l1Rd_near.E := ⟨⟨spec_l1Rd_below.sound, callable_of (by kernel_rfl)⟩, ⟨spec_l1Rd_word.sound, callable_of (by kernel_rfl)⟩, trivial⟩
theorem spec_l1Rd_near.sound : Sound Tryz.prog 120 spec_l1Rd_near.s := by
  refine func_sound (f := spec_l1Rd_near.a) (G := spec_l1Rd_near.G) (fn := Tryz.f120) (body := bodyOf Tryz.prog 120) 1000 (by kernel_rfl) spec_l1Rd_near.E_ok Tryz.func120 (by kernel_rfl) (by kernel_rfl) (by kernel_rfl) (ptsOk_of (by kernel_rfl)) ?_ ?_ ?_ ?_
  · intro r H x h
    unfold spec_l1Rd_near.a at h
    simp only at h
    split at h
    · cases h; rfl
    · cases h
  · intro q avs H; rfl
  · intro k q pt avs H x _ h; cases h
  · intro k avs H o h
    try dsimp only at h
    split at h
    · cases h; exact spec_l1Rd_near.eq _ _ _ _ _
    · cases h

def spec_l1Rd_off.a : FnA (List Int × Int × Int) := ⟨22, [.tmp 6], .val, [.box [.con (.int .u8), .val]], [], fun x H => match x, H with
  | .v (.int .i64 r), [.box [.con (.int .u8) h0_0, .v (.int .i64 h0_1)]] => some (h0_0, h0_1, r)
  | _, _ => none⟩
def spec_l1Rd_off.s : Spec := mkS [.box [.con (.int .u8), .val], .val, .val] (fun k avs H => match avs, H with
  | [.box 0 0, .v (.int .i64 a1), .v (.int .i64 a2)], [.box [.con (.int .u8) a0_0, .v (.int .i64 a0_1)]] => some (spec_l1Rd_off.f k a0_0 a0_1 a1 a2)
  | _, _ => none) (fun r => (.v (.int .i64 r.2.2), [.box [.con (.int .u8) r.1, .v (.int .i64 r.2.1)]]))
def spec_l1Rd_off.E : Env := [((53, []), spec_l1Rd_once.s), ((52, []), spec_l1Rd_below.s), ((120, []), spec_l1Rd_near.s)]
def spec_l1Rd_off.G (k p : Nat) (avs : List AV) (H : List HE) : Option (List Int × Int × Int) := none
set_option maxRecDepth 100000 in
theorem spec_l1Rd_off.eq (k : Nat) (a0_0 : List Int) (a0_1 : Int) (a1 : Int) (a2 : Int) : fromTop Tryz.prog spec_l1Rd_off.E k spec_l1Rd_off.a (spec_l1Rd_off.G k) 1000 (bodyOf Tryz.prog 93) [.box 0 0, .v (.int .i64 a1), .v (.int .i64 a2)] [.box [.con (.int .u8) a0_0, .v (.int .i64 a0_1)]] = spec_l1Rd_off.f k a0_0 a0_1 a1 a2 := by kernel_rfl
theorem spec_l1Rd_off.E_ok : EnvOk Tryz.prog spec_l1Rd_off.E := ⟨⟨spec_l1Rd_once.sound, callable_of (by kernel_rfl)⟩, ⟨spec_l1Rd_below.sound, callable_of (by kernel_rfl)⟩, ⟨spec_l1Rd_near.sound, callable_of (by kernel_rfl)⟩, trivial⟩
theorem spec_l1Rd_off.sound : Sound Tryz.prog 93 spec_l1Rd_off.s := by
  refine func_sound (f := spec_l1Rd_off.a) (G := spec_l1Rd_off.G) (fn := Tryz.f93) (body := bodyOf Tryz.prog 93) 1000 (by kernel_rfl) spec_l1Rd_off.E_ok Tryz.func93 (by kernel_rfl) (by kernel_rfl) (by kernel_rfl) (ptsOk_of (by kernel_rfl)) ?_ ?_ ?_ ?_
  · intro r H x h
    unfold spec_l1Rd_off.a at h
    simp only at h
    split at h
    · cases h; rfl
    · cases h
  · intro q avs H; rfl
  · intro k q pt avs H x _ h; cases h
  · intro k avs H o h
    try dsimp only at h
    split at h
    · cases h; exact spec_l1Rd_off.eq _ _ _ _ _
    · cases h

def spec_l1Rd_ref.a : FnA (List Int × Int × Int) := ⟨28, [.tmp 2], .val, [.box [.con (.int .u8), .val]], [], fun x H => match x, H with
  | .v (.int .i64 r), [.box [.con (.int .u8) h0_0, .v (.int .i64 h0_1)]] => some (h0_0, h0_1, r)
  | _, _ => none⟩
def spec_l1Rd_ref.s : Spec := mkS [.box [.con (.int .u8), .val]] (fun k avs H => match avs, H with
  | [.box 0 0], [.box [.con (.int .u8) a0_0, .v (.int .i64 a0_1)]] => some (spec_l1Rd_ref.f k a0_0 a0_1)
  | _, _ => none) (fun r => (.v (.int .i64 r.2.2), [.box [.con (.int .u8) r.1, .v (.int .i64 r.2.1)]]))
def spec_l1Rd_ref.E : Env := [((52, []), spec_l1Rd_below.s), ((93, []), spec_l1Rd_off.s)]
def spec_l1Rd_ref.G (k p : Nat) (avs : List AV) (H : List HE) : Option (List Int × Int × Int) := none
set_option maxRecDepth 100000 in
theorem spec_l1Rd_ref.eq (k : Nat) (a0_0 : List Int) (a0_1 : Int) : fromTop Tryz.prog spec_l1Rd_ref.E k spec_l1Rd_ref.a (spec_l1Rd_ref.G k) 1000 (bodyOf Tryz.prog 54) [.box 0 0] [.box [.con (.int .u8) a0_0, .v (.int .i64 a0_1)]] = spec_l1Rd_ref.f k a0_0 a0_1 := by kernel_rfl
theorem spec_l1Rd_ref.E_ok : EnvOk Tryz.prog spec_l1Rd_ref.E := ⟨⟨spec_l1Rd_below.sound, callable_of (by kernel_rfl)⟩, ⟨spec_l1Rd_off.sound, callable_of (by kernel_rfl)⟩, trivial⟩
theorem spec_l1Rd_ref.sound : Sound Tryz.prog 54 spec_l1Rd_ref.s := by
  refine func_sound (f := spec_l1Rd_ref.a) (G := spec_l1Rd_ref.G) (fn := Tryz.f54) (body := bodyOf Tryz.prog 54) 1000 (by kernel_rfl) spec_l1Rd_ref.E_ok Tryz.func54 (by kernel_rfl) (by kernel_rfl) (by kernel_rfl) (ptsOk_of (by kernel_rfl)) ?_ ?_ ?_ ?_
  · intro r H x h
    unfold spec_l1Rd_ref.a at h
    simp only at h
    split at h
    · cases h; rfl
    · cases h
  · intro q avs H; rfl
  · intro k q pt avs H x _ h; cases h
  · intro k avs H o h
    try dsimp only at h
    split at h
    · cases h; exact spec_l1Rd_ref.eq _ _ _
    · cases h

def spec_l1Rd_laid.a : FnA (List Int × Int × ByteArray) := ⟨213, [.tmp 4], .val, [.box [.con (.int .u8), .val]], [⟨12, [0, 3, 5, 6, 7, 8], [.box [], .box [.val, .val, .val, .con .str], .box [.row 2 (.int .i64), .row 53 (.pair (.int .i64) (.sl (.int .i64)))], .val, .row 2 (.int .i64), .val], [.box [.con (.int .u8), .val]]⟩, ⟨37, [0, 3, 5, 6, 7, 9, 10, 12, 13], [.box [], .box [.val, .val, .val, .con .str], .box [.row 2 (.int .i64), .row 53 (.pair (.int .i64) (.sl (.int .i64)))], .val, .con (.int .i64), .val, .row 2 (.int .i64), .bool, .val], [.box [.con (.int .u8), .val]]⟩, ⟨41, [0, 3, 5, 6, 7, 9, 10, 13, 67], [.box [], .box [.val, .val, .val, .con .str], .box [.row 2 (.int .i64), .row 53 (.pair (.int .i64) (.sl (.int .i64)))], .val, .con (.int .i64), .val, .row 2 (.int .i64), .val, .bool], [.box [.con (.int .u8), .val]]⟩, ⟨54, [0, 3, 5, 6, 7, 10, 14], [.box [], .box [.val, .val, .val, .con .str], .box [.row 2 (.int .i64), .row 53 (.pair (.int .i64) (.sl (.int .i64)))], .val, .con (.int .i64), .row 2 (.int .i64), .val], [.box [.con (.int .u8), .val]]⟩, ⟨69, [0, 3, 5, 6, 7, 10, 14, 15, 16], [.box [], .box [.val, .val, .val, .con .str], .box [.row 2 (.int .i64), .row 53 (.pair (.int .i64) (.sl (.int .i64)))], .val, .con (.int .i64), .row 2 (.int .i64), .val, .box [.val, .row 2 (.int .i64)], .val], [.box [.con (.int .u8), .val]]⟩, ⟨94, [0, 3, 5, 6, 10, 18], [.box [], .box [.val, .val, .val, .con .str], .box [.row 2 (.int .i64), .row 53 (.pair (.int .i64) (.sl (.int .i64)))], .val, .row 2 (.int .i64), .val], [.box [.con (.int .u8), .val]]⟩, ⟨117, [0, 6, 10], [.box [], .val, .row 2 (.int .i64)], [.box [.con (.int .u8), .val]]⟩, ⟨139, [0, 6, 10, 192], [.box [], .val, .row 2 (.int .i64), .bool], [.box [.con (.int .u8), .val]]⟩], fun x H => match x, H with
  | .v (.string r), [.box [.con (.int .u8) h0_0, .v (.int .i64 h0_1)]] => some (h0_0, h0_1, r)
  | _, _ => none⟩
def spec_l1Rd_laid.s : Spec := mkS [.box [.con (.int .u8), .val], .agg [.val, .val, .val, .con .str]] (fun k avs H => match avs, H with
  | [.box 0 0, .agg [.v (.int .i64 a1_0), .v (.int .i64 a1_1), .v (.int .i64 a1_2), .con .str a1_3]], [.box [.con (.int .u8) a0_0, .v (.int .i64 a0_1)]] => some (spec_l1Rd_laid.f k a0_0 a0_1 a1_0 a1_1 a1_2 a1_3)
  | _, _ => none) (fun r => (.v (.string r.2.2), [.box [.con (.int .u8) r.1, .v (.int .i64 r.2.1)]]))
def spec_l1Rd_laid.E : Env := [((82, []), spec_l1Rd_graph.s), ((83, []), spec_Format.s), ((63, []), spec_l1Zeros.s), ((53, []), spec_l1Rd_once.s), ((84, []), spec_l6MapOf.s), ((85, []), spec_l10Plan.s), ((86, []), spec_l10Lies.s), ((88, []), spec_ObjectBytes.s), ((87, []), spec_l2With.s), ((89, []), spec_WordBytes.s), ((51, []), spec_l10Slots.s), ((33, []), spec_l10Map.s), ((52, []), spec_l1Rd_below.s), ((90, []), spec_l1Rd_hurt.s), ((54, []), spec_l1Rd_ref.s)]
def spec_l1Rd_laid.G12 (k : Nat) (avs : List AV) (H : List HE) : Option (List Int × Int × ByteArray) := match avs, H with
  | [.box 0 0, .box 1 0, .box 2 0, .v (.string x6), .own 5, .v (.int .i64 x8)], [.box [.con (.int .u8) h0_0, .v (.int .i64 h0_1)], .box [.v (.int .i64 x3_0), .v (.int .i64 x3_1), .v (.int .i64 x3_2), .con .str x3_3], .box [.own 3, .own 4], .row 2 (.int .i64) x5_0, .row 53 (.pair (.int .i64) (.sl (.int .i64))) x5_1, .row 2 (.int .i64) x7] => spec_l1Rd_laid.p12 k h0_0 h0_1 x3_0 x3_1 x3_2 x3_3 x5_0 x5_1 x6 x7 x8
  | _, _ => none
def spec_l1Rd_laid.G37 (k : Nat) (avs : List AV) (H : List HE) : Option (List Int × Int × ByteArray) := match avs, H with
  | [.box 0 0, .box 1 0, .box 2 0, .v (.string x6), .con (.int .i64) x7, .v (.string x9), .own 5, .bs false x12, .v (.int .i64 x13)], [.box [.con (.int .u8) h0_0, .v (.int .i64 h0_1)], .box [.v (.int .i64 x3_0), .v (.int .i64 x3_1), .v (.int .i64 x3_2), .con .str x3_3], .box [.own 3, .own 4], .row 2 (.int .i64) x5_0, .row 53 (.pair (.int .i64) (.sl (.int .i64))) x5_1, .row 2 (.int .i64) x10] => spec_l1Rd_laid.p37 k h0_0 h0_1 x3_0 x3_1 x3_2 x3_3 x5_0 x5_1 x6 x7 x9 x10 x12 x13
  | _, _ => none
def spec_l1Rd_laid.G41 (k : Nat) (avs : List AV) (H : List HE) : Option (List Int × Int × ByteArray) := match avs, H with
  | [.box 0 0, .box 1 0, .box 2 0, .v (.string x6), .con (.int .i64) x7, .v (.string x9), .own 5, .v (.int .i64 x13), .bs false x67], [.box [.con (.int .u8) h0_0, .v (.int .i64 h0_1)], .box [.v (.int .i64 x3_0), .v (.int .i64 x3_1), .v (.int .i64 x3_2), .con .str x3_3], .box [.own 3, .own 4], .row 2 (.int .i64) x5_0, .row 53 (.pair (.int .i64) (.sl (.int .i64))) x5_1, .row 2 (.int .i64) x10] => spec_l1Rd_laid.p41 k h0_0 h0_1 x3_0 x3_1 x3_2 x3_3 x5_0 x5_1 x6 x7 x9 x10 x13 x67
  | _, _ => none
def spec_l1Rd_laid.G54 (k : Nat) (avs : List AV) (H : List HE) : Option (List Int × Int × ByteArray) := match avs, H with
  | [.box 0 0, .box 1 0, .box 2 0, .v (.string x6), .con (.int .i64) x7, .own 5, .v (.int .i64 x14)], [.box [.con (.int .u8) h0_0, .v (.int .i64 h0_1)], .box [.v (.int .i64 x3_0), .v (.int .i64 x3_1), .v (.int .i64 x3_2), .con .str x3_3], .box [.own 3, .own 4], .row 2 (.int .i64) x5_0, .row 53 (.pair (.int .i64) (.sl (.int .i64))) x5_1, .row 2 (.int .i64) x10] => spec_l1Rd_laid.p54 k h0_0 h0_1 x3_0 x3_1 x3_2 x3_3 x5_0 x5_1 x6 x7 x10 x14
  | _, _ => none
def spec_l1Rd_laid.G69 (k : Nat) (avs : List AV) (H : List HE) : Option (List Int × Int × ByteArray) := match avs, H with
  | [.box 0 0, .box 1 0, .box 2 0, .v (.string x6), .con (.int .i64) x7, .own 5, .v (.int .i64 x14), .box 6 0, .v (.int .i64 x16)], [.box [.con (.int .u8) h0_0, .v (.int .i64 h0_1)], .box [.v (.int .i64 x3_0), .v (.int .i64 x3_1), .v (.int .i64 x3_2), .con .str x3_3], .box [.own 3, .own 4], .row 2 (.int .i64) x5_0, .row 53 (.pair (.int .i64) (.sl (.int .i64))) x5_1, .row 2 (.int .i64) x10, .box [.v (.int .i64 x15_0), .own 7], .row 2 (.int .i64) x15_1] => spec_l1Rd_laid.p69 k h0_0 h0_1 x3_0 x3_1 x3_2 x3_3 x5_0 x5_1 x6 x7 x10 x14 x15_0 x15_1 x16
  | _, _ => none
def spec_l1Rd_laid.G94 (k : Nat) (avs : List AV) (H : List HE) : Option (List Int × Int × ByteArray) := match avs, H with
  | [.box 0 0, .box 1 0, .box 2 0, .v (.string x6), .own 5, .v (.int .i64 x18)], [.box [.con (.int .u8) h0_0, .v (.int .i64 h0_1)], .box [.v (.int .i64 x3_0), .v (.int .i64 x3_1), .v (.int .i64 x3_2), .con .str x3_3], .box [.own 3, .own 4], .row 2 (.int .i64) x5_0, .row 53 (.pair (.int .i64) (.sl (.int .i64))) x5_1, .row 2 (.int .i64) x10] => spec_l1Rd_laid.p94 k h0_0 h0_1 x3_0 x3_1 x3_2 x3_3 x5_0 x5_1 x6 x10 x18
  | _, _ => none
def spec_l1Rd_laid.G117 (k : Nat) (avs : List AV) (H : List HE) : Option (List Int × Int × ByteArray) := match avs, H with
  | [.box 0 0, .v (.string x6), .own 1], [.box [.con (.int .u8) h0_0, .v (.int .i64 h0_1)], .row 2 (.int .i64) x10] => spec_l1Rd_laid.p117 k h0_0 h0_1 x6 x10
  | _, _ => none
def spec_l1Rd_laid.G139 (k : Nat) (avs : List AV) (H : List HE) : Option (List Int × Int × ByteArray) := match avs, H with
  | [.box 0 0, .v (.string x6), .own 1, .bs false x192], [.box [.con (.int .u8) h0_0, .v (.int .i64 h0_1)], .row 2 (.int .i64) x10] => spec_l1Rd_laid.p139 k h0_0 h0_1 x6 x10 x192
  | _, _ => none
def spec_l1Rd_laid.G (k p : Nat) (avs : List AV) (H : List HE) : Option (List Int × Int × ByteArray) := (pick1 12 (spec_l1Rd_laid.G12 k avs H) (pick1 37 (spec_l1Rd_laid.G37 k avs H) (pick1 41 (spec_l1Rd_laid.G41 k avs H) (pick1 54 (spec_l1Rd_laid.G54 k avs H) (pick1 69 (spec_l1Rd_laid.G69 k avs H) (pick1 94 (spec_l1Rd_laid.G94 k avs H) (pick1 117 (spec_l1Rd_laid.G117 k avs H) (pick1 139 (spec_l1Rd_laid.G139 k avs H) none p) p) p) p) p) p) p) p)
set_option maxRecDepth 100000 in
theorem spec_l1Rd_laid.eq (k : Nat) (a0_0 : List Int) (a0_1 : Int) (a1_0 : Int) (a1_1 : Int) (a1_2 : Int) (a1_3 : List ByteArray) : fromTop Tryz.prog spec_l1Rd_laid.E k spec_l1Rd_laid.a (spec_l1Rd_laid.G k) 1000 (bodyOf Tryz.prog 50) [.box 0 0, .agg [.v (.int .i64 a1_0), .v (.int .i64 a1_1), .v (.int .i64 a1_2), .con .str a1_3]] [.box [.con (.int .u8) a0_0, .v (.int .i64 a0_1)]] = spec_l1Rd_laid.f k a0_0 a0_1 a1_0 a1_1 a1_2 a1_3 := by kernel_rfl
set_option maxRecDepth 100000 in
theorem spec_l1Rd_laid.eq12 (k : Nat) (h0_0 : List Int) (h0_1 : Int) (x3_0 : Int) (x3_1 : Int) (x3_2 : Int) (x3_3 : List ByteArray) (x5_0 : List Int) (x5_1 : List (Int × List Int)) (x6 : ByteArray) (x7 : List Int) (x8 : Int) : fromPt Tryz.prog spec_l1Rd_laid.E k spec_l1Rd_laid.a (spec_l1Rd_laid.G k) 1000 (bodyOf Tryz.prog 50) 12 [.box 0 0, .box 1 0, .box 2 0, .v (.string x6), .own 5, .v (.int .i64 x8)] [.box [.con (.int .u8) h0_0, .v (.int .i64 h0_1)], .box [.v (.int .i64 x3_0), .v (.int .i64 x3_1), .v (.int .i64 x3_2), .con .str x3_3], .box [.own 3, .own 4], .row 2 (.int .i64) x5_0, .row 53 (.pair (.int .i64) (.sl (.int .i64))) x5_1, .row 2 (.int .i64) x7] = spec_l1Rd_laid.p12 (k + 1) h0_0 h0_1 x3_0 x3_1 x3_2 x3_3 x5_0 x5_1 x6 x7 x8 := by kernel_rfl
theorem spec_l1Rd_laid.G12_0 {avs : List AV} {H : List HE} : spec_l1Rd_laid.G12 0 avs H = none := by unfold spec_l1Rd_laid.G12; split <;> rfl
theorem spec_l1Rd_laid.G12_s (k : Nat) {avs : List AV} {H : List HE} {x : List Int × Int × ByteArray} (h : spec_l1Rd_laid.G12 (k + 1) avs H = some x) : fromPt Tryz.prog spec_l1Rd_laid.E k spec_l1Rd_laid.a (spec_l1Rd_laid.G k) 1000 (bodyOf Tryz.prog 50) 12 avs H = some x := by
  unfold spec_l1Rd_laid.G12 at h
  split at h
  · rw [← h]; exact spec_l1Rd_laid.eq12 _ _ _ _ _ _ _ _ _ _ _ _
  · cases h
set_option maxRecDepth 100000 in
theorem spec_l1Rd_laid.eq37 (k : Nat) (h0_0 : List Int) (h0_1 : Int) (x3_0 : Int) (x3_1 : Int) (x3_2 : Int) (x3_3 : List ByteArray) (x5_0 : List Int) (x5_1 : List (Int × List Int)) (x6 : ByteArray) (x7 : List Int) (x9 : ByteArray) (x10 : List Int) (x12 : Bool) (x13 : Int) : fromPt Tryz.prog spec_l1Rd_laid.E k spec_l1Rd_laid.a (spec_l1Rd_laid.G k) 1000 (bodyOf Tryz.prog 50) 37 [.box 0 0, .box 1 0, .box 2 0, .v (.string x6), .con (.int .i64) x7, .v (.string x9), .own 5, .bs false x12, .v (.int .i64 x13)] [.box [.con (.int .u8) h0_0, .v (.int .i64 h0_1)], .box [.v (.int .i64 x3_0), .v (.int .i64 x3_1), .v (.int .i64 x3_2), .con .str x3_3], .box [.own 3, .own 4], .row 2 (.int .i64) x5_0, .row 53 (.pair (.int .i64) (.sl (.int .i64))) x5_1, .row 2 (.int .i64) x10] = spec_l1Rd_laid.p37 (k + 1) h0_0 h0_1 x3_0 x3_1 x3_2 x3_3 x5_0 x5_1 x6 x7 x9 x10 x12 x13 := by kernel_rfl
theorem spec_l1Rd_laid.G37_0 {avs : List AV} {H : List HE} : spec_l1Rd_laid.G37 0 avs H = none := by unfold spec_l1Rd_laid.G37; split <;> rfl
theorem spec_l1Rd_laid.G37_s (k : Nat) {avs : List AV} {H : List HE} {x : List Int × Int × ByteArray} (h : spec_l1Rd_laid.G37 (k + 1) avs H = some x) : fromPt Tryz.prog spec_l1Rd_laid.E k spec_l1Rd_laid.a (spec_l1Rd_laid.G k) 1000 (bodyOf Tryz.prog 50) 37 avs H = some x := by
  unfold spec_l1Rd_laid.G37 at h
  split at h
  · rw [← h]; exact spec_l1Rd_laid.eq37 _ _ _ _ _ _ _ _ _ _ _ _ _ _ _
  · cases h
set_option maxRecDepth 100000 in
theorem spec_l1Rd_laid.eq41 (k : Nat) (h0_0 : List Int) (h0_1 : Int) (x3_0 : Int) (x3_1 : Int) (x3_2 : Int) (x3_3 : List ByteArray) (x5_0 : List Int) (x5_1 : List (Int × List Int)) (x6 : ByteArray) (x7 : List Int) (x9 : ByteArray) (x10 : List Int) (x13 : Int) (x67 : Bool) : fromPt Tryz.prog spec_l1Rd_laid.E k spec_l1Rd_laid.a (spec_l1Rd_laid.G k) 1000 (bodyOf Tryz.prog 50) 41 [.box 0 0, .box 1 0, .box 2 0, .v (.string x6), .con (.int .i64) x7, .v (.string x9), .own 5, .v (.int .i64 x13), .bs false x67] [.box [.con (.int .u8) h0_0, .v (.int .i64 h0_1)], .box [.v (.int .i64 x3_0), .v (.int .i64 x3_1), .v (.int .i64 x3_2), .con .str x3_3], .box [.own 3, .own 4], .row 2 (.int .i64) x5_0, .row 53 (.pair (.int .i64) (.sl (.int .i64))) x5_1, .row 2 (.int .i64) x10] = spec_l1Rd_laid.p41 (k + 1) h0_0 h0_1 x3_0 x3_1 x3_2 x3_3 x5_0 x5_1 x6 x7 x9 x10 x13 x67 := by kernel_rfl
theorem spec_l1Rd_laid.G41_0 {avs : List AV} {H : List HE} : spec_l1Rd_laid.G41 0 avs H = none := by unfold spec_l1Rd_laid.G41; split <;> rfl
theorem spec_l1Rd_laid.G41_s (k : Nat) {avs : List AV} {H : List HE} {x : List Int × Int × ByteArray} (h : spec_l1Rd_laid.G41 (k + 1) avs H = some x) : fromPt Tryz.prog spec_l1Rd_laid.E k spec_l1Rd_laid.a (spec_l1Rd_laid.G k) 1000 (bodyOf Tryz.prog 50) 41 avs H = some x := by
  unfold spec_l1Rd_laid.G41 at h
  split at h
  · rw [← h]; exact spec_l1Rd_laid.eq41 _ _ _ _ _ _ _ _ _ _ _ _ _ _ _
  · cases h
set_option maxRecDepth 100000 in
theorem spec_l1Rd_laid.eq54 (k : Nat) (h0_0 : List Int) (h0_1 : Int) (x3_0 : Int) (x3_1 : Int) (x3_2 : Int) (x3_3 : List ByteArray) (x5_0 : List Int) (x5_1 : List (Int × List Int)) (x6 : ByteArray) (x7 : List Int) (x10 : List Int) (x14 : Int) : fromPt Tryz.prog spec_l1Rd_laid.E k spec_l1Rd_laid.a (spec_l1Rd_laid.G k) 1000 (bodyOf Tryz.prog 50) 54 [.box 0 0, .box 1 0, .box 2 0, .v (.string x6), .con (.int .i64) x7, .own 5, .v (.int .i64 x14)] [.box [.con (.int .u8) h0_0, .v (.int .i64 h0_1)], .box [.v (.int .i64 x3_0), .v (.int .i64 x3_1), .v (.int .i64 x3_2), .con .str x3_3], .box [.own 3, .own 4], .row 2 (.int .i64) x5_0, .row 53 (.pair (.int .i64) (.sl (.int .i64))) x5_1, .row 2 (.int .i64) x10] = spec_l1Rd_laid.p54 (k + 1) h0_0 h0_1 x3_0 x3_1 x3_2 x3_3 x5_0 x5_1 x6 x7 x10 x14 := by kernel_rfl
theorem spec_l1Rd_laid.G54_0 {avs : List AV} {H : List HE} : spec_l1Rd_laid.G54 0 avs H = none := by unfold spec_l1Rd_laid.G54; split <;> rfl
theorem spec_l1Rd_laid.G54_s (k : Nat) {avs : List AV} {H : List HE} {x : List Int × Int × ByteArray} (h : spec_l1Rd_laid.G54 (k + 1) avs H = some x) : fromPt Tryz.prog spec_l1Rd_laid.E k spec_l1Rd_laid.a (spec_l1Rd_laid.G k) 1000 (bodyOf Tryz.prog 50) 54 avs H = some x := by
  unfold spec_l1Rd_laid.G54 at h
  split at h
  · rw [← h]; exact spec_l1Rd_laid.eq54 _ _ _ _ _ _ _ _ _ _ _ _ _
  · cases h
set_option maxRecDepth 100000 in
theorem spec_l1Rd_laid.eq69 (k : Nat) (h0_0 : List Int) (h0_1 : Int) (x3_0 : Int) (x3_1 : Int) (x3_2 : Int) (x3_3 : List ByteArray) (x5_0 : List Int) (x5_1 : List (Int × List Int)) (x6 : ByteArray) (x7 : List Int) (x10 : List Int) (x14 : Int) (x15_0 : Int) (x15_1 : List Int) (x16 : Int) : fromPt Tryz.prog spec_l1Rd_laid.E k spec_l1Rd_laid.a (spec_l1Rd_laid.G k) 1000 (bodyOf Tryz.prog 50) 69 [.box 0 0, .box 1 0, .box 2 0, .v (.string x6), .con (.int .i64) x7, .own 5, .v (.int .i64 x14), .box 6 0, .v (.int .i64 x16)] [.box [.con (.int .u8) h0_0, .v (.int .i64 h0_1)], .box [.v (.int .i64 x3_0), .v (.int .i64 x3_1), .v (.int .i64 x3_2), .con .str x3_3], .box [.own 3, .own 4], .row 2 (.int .i64) x5_0, .row 53 (.pair (.int .i64) (.sl (.int .i64))) x5_1, .row 2 (.int .i64) x10, .box [.v (.int .i64 x15_0), .own 7], .row 2 (.int .i64) x15_1] = spec_l1Rd_laid.p69 (k + 1) h0_0 h0_1 x3_0 x3_1 x3_2 x3_3 x5_0 x5_1 x6 x7 x10 x14 x15_0 x15_1 x16 := by kernel_rfl
theorem spec_l1Rd_laid.G69_0 {avs : List AV} {H : List HE} : spec_l1Rd_laid.G69 0 avs H = none := by unfold spec_l1Rd_laid.G69; split <;> rfl
theorem spec_l1Rd_laid.G69_s (k : Nat) {avs : List AV} {H : List HE} {x : List Int × Int × ByteArray} (h : spec_l1Rd_laid.G69 (k + 1) avs H = some x) : fromPt Tryz.prog spec_l1Rd_laid.E k spec_l1Rd_laid.a (spec_l1Rd_laid.G k) 1000 (bodyOf Tryz.prog 50) 69 avs H = some x := by
  unfold spec_l1Rd_laid.G69 at h
  split at h
  · rw [← h]; exact spec_l1Rd_laid.eq69 _ _ _ _ _ _ _ _ _ _ _ _ _ _ _ _
  · cases h
set_option maxRecDepth 100000 in
theorem spec_l1Rd_laid.eq94 (k : Nat) (h0_0 : List Int) (h0_1 : Int) (x3_0 : Int) (x3_1 : Int) (x3_2 : Int) (x3_3 : List ByteArray) (x5_0 : List Int) (x5_1 : List (Int × List Int)) (x6 : ByteArray) (x10 : List Int) (x18 : Int) : fromPt Tryz.prog spec_l1Rd_laid.E k spec_l1Rd_laid.a (spec_l1Rd_laid.G k) 1000 (bodyOf Tryz.prog 50) 94 [.box 0 0, .box 1 0, .box 2 0, .v (.string x6), .own 5, .v (.int .i64 x18)] [.box [.con (.int .u8) h0_0, .v (.int .i64 h0_1)], .box [.v (.int .i64 x3_0), .v (.int .i64 x3_1), .v (.int .i64 x3_2), .con .str x3_3], .box [.own 3, .own 4], .row 2 (.int .i64) x5_0, .row 53 (.pair (.int .i64) (.sl (.int .i64))) x5_1, .row 2 (.int .i64) x10] = spec_l1Rd_laid.p94 (k + 1) h0_0 h0_1 x3_0 x3_1 x3_2 x3_3 x5_0 x5_1 x6 x10 x18 := by kernel_rfl
theorem spec_l1Rd_laid.G94_0 {avs : List AV} {H : List HE} : spec_l1Rd_laid.G94 0 avs H = none := by unfold spec_l1Rd_laid.G94; split <;> rfl
theorem spec_l1Rd_laid.G94_s (k : Nat) {avs : List AV} {H : List HE} {x : List Int × Int × ByteArray} (h : spec_l1Rd_laid.G94 (k + 1) avs H = some x) : fromPt Tryz.prog spec_l1Rd_laid.E k spec_l1Rd_laid.a (spec_l1Rd_laid.G k) 1000 (bodyOf Tryz.prog 50) 94 avs H = some x := by
  unfold spec_l1Rd_laid.G94 at h
  split at h
  · rw [← h]; exact spec_l1Rd_laid.eq94 _ _ _ _ _ _ _ _ _ _ _ _
  · cases h
set_option maxRecDepth 100000 in
theorem spec_l1Rd_laid.eq117 (k : Nat) (h0_0 : List Int) (h0_1 : Int) (x6 : ByteArray) (x10 : List Int) : fromPt Tryz.prog spec_l1Rd_laid.E k spec_l1Rd_laid.a (spec_l1Rd_laid.G k) 1000 (bodyOf Tryz.prog 50) 117 [.box 0 0, .v (.string x6), .own 1] [.box [.con (.int .u8) h0_0, .v (.int .i64 h0_1)], .row 2 (.int .i64) x10] = spec_l1Rd_laid.p117 (k + 1) h0_0 h0_1 x6 x10 := by kernel_rfl
theorem spec_l1Rd_laid.G117_0 {avs : List AV} {H : List HE} : spec_l1Rd_laid.G117 0 avs H = none := by unfold spec_l1Rd_laid.G117; split <;> rfl
theorem spec_l1Rd_laid.G117_s (k : Nat) {avs : List AV} {H : List HE} {x : List Int × Int × ByteArray} (h : spec_l1Rd_laid.G117 (k + 1) avs H = some x) : fromPt Tryz.prog spec_l1Rd_laid.E k spec_l1Rd_laid.a (spec_l1Rd_laid.G k) 1000 (bodyOf Tryz.prog 50) 117 avs H = some x := by
  unfold spec_l1Rd_laid.G117 at h
  split at h
  · rw [← h]; exact spec_l1Rd_laid.eq117 _ _ _ _ _
  · cases h
set_option maxRecDepth 100000 in
theorem spec_l1Rd_laid.eq139 (k : Nat) (h0_0 : List Int) (h0_1 : Int) (x6 : ByteArray) (x10 : List Int) (x192 : Bool) : fromPt Tryz.prog spec_l1Rd_laid.E k spec_l1Rd_laid.a (spec_l1Rd_laid.G k) 1000 (bodyOf Tryz.prog 50) 139 [.box 0 0, .v (.string x6), .own 1, .bs false x192] [.box [.con (.int .u8) h0_0, .v (.int .i64 h0_1)], .row 2 (.int .i64) x10] = spec_l1Rd_laid.p139 (k + 1) h0_0 h0_1 x6 x10 x192 := by kernel_rfl
theorem spec_l1Rd_laid.G139_0 {avs : List AV} {H : List HE} : spec_l1Rd_laid.G139 0 avs H = none := by unfold spec_l1Rd_laid.G139; split <;> rfl
theorem spec_l1Rd_laid.G139_s (k : Nat) {avs : List AV} {H : List HE} {x : List Int × Int × ByteArray} (h : spec_l1Rd_laid.G139 (k + 1) avs H = some x) : fromPt Tryz.prog spec_l1Rd_laid.E k spec_l1Rd_laid.a (spec_l1Rd_laid.G k) 1000 (bodyOf Tryz.prog 50) 139 avs H = some x := by
  unfold spec_l1Rd_laid.G139 at h
  split at h
  · rw [← h]; exact spec_l1Rd_laid.eq139 _ _ _ _ _ _
  · cases h
theorem spec_l1Rd_laid.E_ok : EnvOk Tryz.prog spec_l1Rd_laid.E := ⟨⟨spec_l1Rd_graph.sound, callable_of (by kernel_rfl)⟩, ⟨spec_Format.sound, callable_of (by kernel_rfl)⟩, ⟨spec_l1Zeros.sound, callable_of (by kernel_rfl)⟩, ⟨spec_l1Rd_once.sound, callable_of (by kernel_rfl)⟩, ⟨spec_l6MapOf.sound, callable_of (by kernel_rfl)⟩, ⟨spec_l10Plan.sound, callable_of (by kernel_rfl)⟩, ⟨spec_l10Lies.sound, callable_of (by kernel_rfl)⟩, ⟨spec_ObjectBytes.sound, callable_of (by kernel_rfl)⟩, ⟨spec_l2With.sound, callable_of (by kernel_rfl)⟩, ⟨spec_WordBytes.sound, callable_of (by kernel_rfl)⟩, ⟨spec_l10Slots.sound, callable_of (by kernel_rfl)⟩, ⟨spec_l10Map.sound, callable_of (by kernel_rfl)⟩, ⟨spec_l1Rd_below.sound, callable_of (by kernel_rfl)⟩, ⟨spec_l1Rd_hurt.sound, callable_of (by kernel_rfl)⟩, ⟨spec_l1Rd_ref.sound, callable_of (by kernel_rfl)⟩, trivial⟩
theorem spec_l1Rd_laid.sound : Sound Tryz.prog 50 spec_l1Rd_laid.s := by
  refine func_sound (f := spec_l1Rd_laid.a) (G := spec_l1Rd_laid.G) (fn := Tryz.f50) (body := bodyOf Tryz.prog 50) 1000 (by kernel_rfl) spec_l1Rd_laid.E_ok Tryz.func50 (by kernel_rfl) (by kernel_rfl) (by kernel_rfl) (ptsOk_of (by kernel_rfl)) ?_ ?_ ?_ ?_
  · intro r H x h
    unfold spec_l1Rd_laid.a at h
    simp only at h
    split at h
    · cases h; rfl
    · cases h
  · exact fun q avs H => pick1_none spec_l1Rd_laid.G12_0 (pick1_none spec_l1Rd_laid.G37_0 (pick1_none spec_l1Rd_laid.G41_0 (pick1_none spec_l1Rd_laid.G54_0 (pick1_none spec_l1Rd_laid.G69_0 (pick1_none spec_l1Rd_laid.G94_0 (pick1_none spec_l1Rd_laid.G117_0 (pick1_none spec_l1Rd_laid.G139_0 (rfl))))))))
  · intro k q pt avs H x _ h
    rcases pick1_some h with ⟨rfl, h⟩ | h
    · exact spec_l1Rd_laid.G12_s _ h
    rcases pick1_some h with ⟨rfl, h⟩ | h
    · exact spec_l1Rd_laid.G37_s _ h
    rcases pick1_some h with ⟨rfl, h⟩ | h
    · exact spec_l1Rd_laid.G41_s _ h
    rcases pick1_some h with ⟨rfl, h⟩ | h
    · exact spec_l1Rd_laid.G54_s _ h
    rcases pick1_some h with ⟨rfl, h⟩ | h
    · exact spec_l1Rd_laid.G69_s _ h
    rcases pick1_some h with ⟨rfl, h⟩ | h
    · exact spec_l1Rd_laid.G94_s _ h
    rcases pick1_some h with ⟨rfl, h⟩ | h
    · exact spec_l1Rd_laid.G117_s _ h
    rcases pick1_some h with ⟨rfl, h⟩ | h
    · exact spec_l1Rd_laid.G139_s _ h
    cases h
  · intro k avs H o h
    try dsimp only at h
    split at h
    · cases h; exact spec_l1Rd_laid.eq _ _ _ _ _ _ _
    · cases h

def spec_DrawWalk.a : FnA (Int × Int × Int × List ByteArray × ByteArray × List Int) := ⟨55, [.cell 2 29, .tmp 3, .tmp 4], .tup [.agg [.val, .val, .val, .con .str], .val, .row 2 (.int .i64)], [], [⟨22, [2, 5, 6, 7, 8, 9, 10], [.box [.val, .val, .val, .val], .box [.con (.int .u8), .val], .box [.val, .val, .val, .con .str], .val, .row 2 (.int .i64), .row 2 (.int .i64), .val], []⟩], fun x H => match x, H with
  | .tup [.agg [.v (.int .i64 r_0_0), .v (.int .i64 r_0_1), .v (.int .i64 r_0_2), .con .str r_0_3], .v (.string r_1), .own 0], [.row 2 (.int .i64) r_2] => some (r_0_0, r_0_1, r_0_2, r_0_3, r_1, r_2)
  | _, _ => none⟩
def spec_DrawWalk.s : Spec := mkS [.con (.int .u8)] (fun k avs H => match avs, H with
  | [.con (.int .u8) a0], [] => some (spec_DrawWalk.f k a0)
  | _, _ => none) (fun r => (.tup [.agg [.v (.int .i64 r.1), .v (.int .i64 r.2.1), .v (.int .i64 r.2.2.1), .con .str r.2.2.2.1], .v (.string r.2.2.2.2.1), .own 0], [.row 2 (.int .i64) r.2.2.2.2.2]))
def spec_DrawWalk.E : Env := [((48, []), spec_l1Open.s), ((49, []), spec_l1Rd_config.s), ((50, []), spec_l1Rd_laid.s), ((51, []), spec_l10Slots.s), ((52, []), spec_l1Rd_below.s), ((53, []), spec_l1Rd_once.s), ((54, []), spec_l1Rd_ref.s)]
def spec_DrawWalk.G22 (k : Nat) (avs : List AV) (H : List HE) : Option (Int × Int × Int × List ByteArray × ByteArray × List Int) := match avs, H with
  | [.box 0 0, .box 1 0, .box 2 0, .v (.string x7), .own 3, .own 4, .v (.int .i64 x10)], [.box [.v (.int .i64 x2_0), .v (.int .i64 x2_1), .v (.int .i64 x2_2), .v (.slice none 0 0)], .box [.con (.int .u8) x5_0, .v (.int .i64 x5_1)], .box [.v (.int .i64 x6_0), .v (.int .i64 x6_1), .v (.int .i64 x6_2), .con .str x6_3], .row 2 (.int .i64) x8, .row 2 (.int .i64) x9] => spec_DrawWalk.p22 k x2_0 x2_1 x2_2 x5_0 x5_1 x6_0 x6_1 x6_2 x6_3 x7 x8 x9 x10
  | _, _ => none
def spec_DrawWalk.G (k p : Nat) (avs : List AV) (H : List HE) : Option (Int × Int × Int × List ByteArray × ByteArray × List Int) := (pick1 22 (spec_DrawWalk.G22 k avs H) none p)
set_option maxRecDepth 100000 in
theorem spec_DrawWalk.eq (k : Nat) (a0 : List Int) : fromTop Tryz.prog spec_DrawWalk.E k spec_DrawWalk.a (spec_DrawWalk.G k) 1000 (bodyOf Tryz.prog 25) [.con (.int .u8) a0] [] = spec_DrawWalk.f k a0 := by kernel_rfl
set_option maxRecDepth 100000 in
theorem spec_DrawWalk.eq22 (k : Nat) (x2_0 : Int) (x2_1 : Int) (x2_2 : Int) (x5_0 : List Int) (x5_1 : Int) (x6_0 : Int) (x6_1 : Int) (x6_2 : Int) (x6_3 : List ByteArray) (x7 : ByteArray) (x8 : List Int) (x9 : List Int) (x10 : Int) : fromPt Tryz.prog spec_DrawWalk.E k spec_DrawWalk.a (spec_DrawWalk.G k) 1000 (bodyOf Tryz.prog 25) 22 [.box 0 0, .box 1 0, .box 2 0, .v (.string x7), .own 3, .own 4, .v (.int .i64 x10)] [.box [.v (.int .i64 x2_0), .v (.int .i64 x2_1), .v (.int .i64 x2_2), .v (.slice none 0 0)], .box [.con (.int .u8) x5_0, .v (.int .i64 x5_1)], .box [.v (.int .i64 x6_0), .v (.int .i64 x6_1), .v (.int .i64 x6_2), .con .str x6_3], .row 2 (.int .i64) x8, .row 2 (.int .i64) x9] = spec_DrawWalk.p22 (k + 1) x2_0 x2_1 x2_2 x5_0 x5_1 x6_0 x6_1 x6_2 x6_3 x7 x8 x9 x10 := by kernel_rfl
theorem spec_DrawWalk.G22_0 {avs : List AV} {H : List HE} : spec_DrawWalk.G22 0 avs H = none := by unfold spec_DrawWalk.G22; split <;> rfl
theorem spec_DrawWalk.G22_s (k : Nat) {avs : List AV} {H : List HE} {x : Int × Int × Int × List ByteArray × ByteArray × List Int} (h : spec_DrawWalk.G22 (k + 1) avs H = some x) : fromPt Tryz.prog spec_DrawWalk.E k spec_DrawWalk.a (spec_DrawWalk.G k) 1000 (bodyOf Tryz.prog 25) 22 avs H = some x := by
  unfold spec_DrawWalk.G22 at h
  split at h
  · rw [← h]; exact spec_DrawWalk.eq22 _ _ _ _ _ _ _ _ _ _ _ _ _ _
  · cases h
theorem spec_DrawWalk.E_ok : EnvOk Tryz.prog spec_DrawWalk.E := ⟨⟨spec_l1Open.sound, callable_of (by kernel_rfl)⟩, ⟨spec_l1Rd_config.sound, callable_of (by kernel_rfl)⟩, ⟨spec_l1Rd_laid.sound, callable_of (by kernel_rfl)⟩, ⟨spec_l10Slots.sound, callable_of (by kernel_rfl)⟩, ⟨spec_l1Rd_below.sound, callable_of (by kernel_rfl)⟩, ⟨spec_l1Rd_once.sound, callable_of (by kernel_rfl)⟩, ⟨spec_l1Rd_ref.sound, callable_of (by kernel_rfl)⟩, trivial⟩
theorem spec_DrawWalk.sound : Sound Tryz.prog 25 spec_DrawWalk.s := by
  refine func_sound (f := spec_DrawWalk.a) (G := spec_DrawWalk.G) (fn := Tryz.f25) (body := bodyOf Tryz.prog 25) 1000 (by kernel_rfl) spec_DrawWalk.E_ok Tryz.func25 (by kernel_rfl) (by kernel_rfl) (by kernel_rfl) (ptsOk_of (by kernel_rfl)) ?_ ?_ ?_ ?_
  · intro r H x h
    unfold spec_DrawWalk.a at h
    simp only at h
    split at h
    · cases h; rfl
    · cases h
  · exact fun q avs H => pick1_none spec_DrawWalk.G22_0 (rfl)
  · intro k q pt avs H x _ h
    rcases pick1_some h with ⟨rfl, h⟩ | h
    · exact spec_DrawWalk.G22_s _ h
    cases h
  · intro k avs H o h
    try dsimp only at h
    split at h
    · cases h; exact spec_DrawWalk.eq _ _
    · cases h

def impl_within.a : FnA (Bool) := ⟨15, [.tmp 6], .bool, [], [], fun x H => match x, H with
  | .bs false r, [] => some r
  | _, _ => none⟩
def impl_within.s : Spec := mkS [.val, .val, .val] (fun k avs H => match avs, H with
  | [.v (.int .i64 a0), .v (.int .i64 a1), .v (.int .i64 a2)], [] => some (impl_within.f a0 a1 a2)
  | _, _ => none) (fun r => (.bs false r, []))
def impl_within.E : Env := []
def impl_within.G (k p : Nat) (avs : List AV) (H : List HE) : Option (Bool) := none
set_option maxRecDepth 100000 in
theorem impl_within.eq (k : Nat) (a0 : Int) (a1 : Int) (a2 : Int) : fromTop Tryz.prog impl_within.E k impl_within.a (impl_within.G k) 1000 (bodyOf Tryz.prog 79) [.v (.int .i64 a0), .v (.int .i64 a1), .v (.int .i64 a2)] [] = impl_within.f a0 a1 a2 := by kernel_rfl
theorem impl_within.E_ok : EnvOk Tryz.prog impl_within.E := trivial
theorem impl_within.sound : Sound Tryz.prog 79 impl_within.s := by
  refine func_sound (f := impl_within.a) (G := impl_within.G) (fn := Tryz.f79) (body := bodyOf Tryz.prog 79) 1000 (by kernel_rfl) impl_within.E_ok Tryz.func79 (by kernel_rfl) (by kernel_rfl) (by kernel_rfl) (ptsOk_of (by kernel_rfl)) ?_ ?_ ?_ ?_
  · intro r H x h
    unfold impl_within.a at h
    simp only at h
    split at h
    · cases h; rfl
    · cases h
  · intro q avs H; rfl
  · intro k q pt avs H x _ h; cases h
  · intro k avs H o h
    try dsimp only at h
    split at h
    · cases h; exact impl_within.eq _ _ _ _
    · cases h

def impl_size_string.a : FnA (Int) := ⟨5, [.tmp 2], .val, [], [], fun x H => match x, H with
  | .v (.int .i64 r), [] => some r
  | _, _ => none⟩
def impl_size_string.s : Spec := mkS [.con .str] (fun k avs H => match avs, H with
  | [.con .str a0], [] => some (impl_size_string.f a0)
  | _, _ => none) (fun r => (.v (.int .i64 r), []))
def impl_size_string.E : Env := []
def impl_size_string.G (k p : Nat) (avs : List AV) (H : List HE) : Option (Int) := none
set_option maxRecDepth 100000 in
theorem impl_size_string.eq (k : Nat) (a0 : List ByteArray) : fromTop Tryz.prog impl_size_string.E k impl_size_string.a (impl_size_string.G k) 1000 (bodyOf Tryz.prog 97) [.con .str a0] [] = impl_size_string.f a0 := by kernel_rfl
theorem impl_size_string.E_ok : EnvOk Tryz.prog impl_size_string.E := trivial
theorem impl_size_string.sound : Sound Tryz.prog 97 impl_size_string.s := by
  refine func_sound (f := impl_size_string.a) (G := impl_size_string.G) (fn := Tryz.f97) (body := bodyOf Tryz.prog 97) 1000 (by kernel_rfl) impl_size_string.E_ok Tryz.func97 (by kernel_rfl) (by kernel_rfl) (by kernel_rfl) (ptsOk_of (by kernel_rfl)) ?_ ?_ ?_ ?_
  · intro r H x h
    unfold impl_size_string.a at h
    simp only at h
    split at h
    · cases h; rfl
    · cases h
  · intro q avs H; rfl
  · intro k q pt avs H x _ h; cases h
  · intro k avs H o h
    try dsimp only at h
    split at h
    · cases h; exact impl_size_string.eq _ _
    · cases h
end
end Go.Proofs.YtlljkankongifaaGreatDoor.Abs
